/- Part 2 of 20 of the proof. -/
import Derived.Test.YtljchnfgjdjobaaGreatWaa
import Derived.RangeFuncNested
set_option linter.unusedVariables false
set_option linter.unusedSimpArgs false
set_option linter.defProp false
set_option linter.unusedSectionVars false
section
namespace Go.aI
open Go
def uW (xs:List AV) (H:List aa) (K:AV→List aa→Prop):Prop:=
 al (H.length + 1) ((flat xs).map AV.ab)=true∧K (.a7 H.length 0 xs.length xs.length) (H++[.cells ((flat xs).map AV.ab)])
def cT (z:AV) (n:Nat):List AV:=flat (List.replicate n (bR z))
def cV (esz bytes:Nat) (z s x:AV) (H:List aa) (K:AV→List aa→Prop):Prop:=
 match dA x with
 | none=>(match s,w8 esz x H with
   | .a7 id off len cap,some (n,ys)=>match H[id]? with
     | some (.cells es)=>n * esz≤ys.length∧(ys.take (n * esz)).all AV.one=true∧len + n≤cap∧off + cap * esz≤es.length∧al (id + 1) ((ys.take (n * esz)).map AV.ab)=true∧
        K (.a7 id off (len + n) cap) (H.set id (.cells (ah es (off + len * esz) ((ys.take (n * esz)).map AV.ab))))
     | _=>False
   | _,_=>False)
 | some ys=>qQ esz ys∧match s with
   | .ag=>ys.length * bytes≤140737488355328∧(ys=[]→K .ag H)∧(ys≠[]→∀ cap,ys.length≤cap→cap < 9223372036854775808→
      al (H.length + 1) ((flat ys).map AV.ab++cT z (cap - ys.length))=true∧K (.a7 H.length 0 ys.length cap) (H++[.cells ((flat ys).map AV.ab++cT z (cap - ys.length))]))
   | .oI=>ys.length * bytes≤140737488355328∧(ys=[]→K .oI H)∧(ys≠[]→∀ cap,ys.length≤cap→cap < 9223372036854775808→
      al (H.length + 1) ((flat ys).map AV.ab++cT z (cap - ys.length))=true∧K (.a7 H.length 0 ys.length cap) (H++[.cells ((flat ys).map AV.ab++cT z (cap - ys.length))]))
   | .a7 id off len cap=>match H[id]? with
     | some (.cells es)=>(len + ys.length) * bytes≤140737488355328∧len≤cap∧off + cap * esz≤es.length∧
        (len + ys.length≤cap→al (id + 1) ((flat ys).map AV.ab)=true∧K (.a7 id off (len + ys.length) cap) (H.set id (.cells (ah es (off + len * esz) ((flat ys).map AV.ab)))))∧
        (cap < len + ys.length→∀ dM,len + ys.length≤dM→dM < 9223372036854775808→
          al (H.length + 1) (((es.drop off).take (len * esz)).map AV.ab++(flat ys).map AV.ab++cT z (dM - (len + ys.length)))=true∧
          K (.a7 H.length 0 (len + ys.length) dM) (H++[.cells (((es.drop off).take (len * esz)).map AV.ab++(flat ys).map AV.ab++cT z (dM - (len + ys.length)))]))
     | _=>False
   | _=>False
def jG (lm:Nat→Nat) (esz bytes:Nat) (z s x:AV) (H:List aa) (K:AV→List aa→Prop):Prop:=
 match dA x with
 | none=>(match s,w8 esz x H with
   | .a7 id off len cap,some (n,ys)=>match H[id]? with
     | some (.cells es)=>n * esz≤ys.length∧(ys.take (n * esz)).all AV.one=true∧len + n≤cap∧off + cap * esz≤es.length∧al (lm id) ((ys.take (n * esz)).map AV.ab)=true∧
        K (.a7 id off (len + n) cap) (H.set id (.cells (ah es (off + len * esz) ((ys.take (n * esz)).map AV.ab))))
     | _=>False
   | _,_=>False)
 | some ys=>qQ esz ys∧match s with
   | .ag=>ys.length * bytes≤140737488355328∧(ys=[]→K .ag H)∧(ys≠[]→∀ cap,ys.length≤cap→cap < 9223372036854775808→
      al (H.length + 1) ((flat ys).map AV.ab++cT z (cap - ys.length))=true∧K (.a7 H.length 0 ys.length cap) (H++[.cells ((flat ys).map AV.ab++cT z (cap - ys.length))]))
   | .oI=>ys.length * bytes≤140737488355328∧(ys=[]→K .oI H)∧(ys≠[]→∀ cap,ys.length≤cap→cap < 9223372036854775808→
      al (H.length + 1) ((flat ys).map AV.ab++cT z (cap - ys.length))=true∧K (.a7 H.length 0 ys.length cap) (H++[.cells ((flat ys).map AV.ab++cT z (cap - ys.length))]))
   | .a7 id off len cap=>match H[id]? with
     | some (.cells es)=>(len + ys.length) * bytes≤140737488355328∧len≤cap∧off + cap * esz≤es.length∧
        (len + ys.length≤cap→al (lm id) ((flat ys).map AV.ab)=true∧K (.a7 id off (len + ys.length) cap) (H.set id (.cells (ah es (off + len * esz) ((flat ys).map AV.ab)))))∧
        (cap < len + ys.length→∀ dM,len + ys.length≤dM→dM < 9223372036854775808→
          al (H.length + 1) (((es.drop off).take (len * esz)).map AV.ab++(flat ys).map AV.ab++cT z (dM - (len + ys.length)))=true∧
          K (.a7 H.length 0 (len + ys.length) dM) (H++[.cells (((es.drop off).take (len * esz)).map AV.ab++(flat ys).map AV.ab++cT z (dM - (len + ys.length)))]))
     | _=>False
   | _=>False
theorem DA (esz bytes:Nat) (z s x:AV) (H:List aa) (K:AV→List aa→Prop):cV esz bytes z s x H K=jG (· + 1) esz bytes z s x H K:=rfl
def fJ (lo esz bytes:Nat) (z s x:AV) (H:List aa) (K:AV→List aa→Prop):Prop:=
 (∀ id off len cap,s=.a7 id off len cap→lo≤id)∧jG (fun _=>H.length) esz bytes z s x H K
def jB (esz:Nat) (z x:AV) (H:List aa) (K:List aa→Prop):Prop:=
 match x with
 | .a7 id off len _=>match H[id]? with
   | some (.cells es)=>off + len * esz≤es.length∧(cT z len).all AV.one=true∧al (id + 1) ((cT z len).map AV.ab)=true∧K (H.set id (.cells (ah es off ((cT z len).map AV.ab))))
   | _=>False
 | _=>False
section
variable {P:Program} {w:World} {M:Mem} {L:List Nat} {H:List aa} {A:Perm} {ev:Nat→Value} {ea:Nat→AV} {O:Pos→Option Nat}
theorem lS {α:Type} (es:List α) (off:Nat):ah es off []=es:=by simp [ah]
theorem St.DB (hs:St A M L w H ev ea O) (cs:Array Value) (e:TypeId) {xs:List AV} (hr:aN M L cs.toList xs) (hb:al (H.length + 1) xs=true) (hf:∀ y∈xs,∀ own zs,y=.aj own zs→own=0) :
 St A M (L++[w.heap.size]) { w with heap:=w.heap.push (.cells cs e) } (H++[.cells xs]) ev ea O∧Ext A M w M { w with heap:=w.heap.push (.cells cs e) }:=
 hs.tB (.cells cs e) (.cells xs) (fun w' hw hM=>⟨_,e,hw,hr.mono (Mem.bW M) ⟨_,rfl⟩,hM⟩) (by simpa [aa.bb] using hb) (fun j=>by
  simp only [oL]
  refine bj.free ?_
  intro own zs hh
  rw [tu] at hh
  cases hx:xs[j]? with
  | none=>simp [hx] at hh
  | some y=>simp [hx] at hh;exact hf y (abm hx) own zs hh)
theorem oV (xs:List AV):∀ y∈xs.map AV.ab,∀ own zs,y=.aj own zs→own=0:=by
 intro y hy own zs e
 obtain ⟨q,_,rfl⟩:=aan.1 hy
 exact AV.bQ q own zs e
theorem Ge {z:AV} (Ds:∀ y∈z.cells,∀ own xs,y=.aj own xs→own=0) (n:Nat):∀ y∈cT z n,∀ own zs,y=.aj own zs→own=0:=by
 intro y hy own zs e
 simp only [cT,flat,acC] at hy
 obtain ⟨q,hq,Po⟩:=hy
 rw [acz hq] at Po
 subst e
 cases z <;> simp only [bR,AV.cells] at Po Ds
 case agg ys=>
  obtain ⟨y',_,hy'⟩:=aan.1 Po
  exact AV.kz y' own zs hy'
 all_goals exact Ds _ Po own zs rfl
theorem Jz (hs:St A M L w H ev ea O) {t e:TypeId} (ht:P.underlying t=some (.slice e)) {esz:Nat} (he:dY P e=some esz) (h0:0 < esz) {z:AV} (hz:gb P e=some z) (gS:z.cells.length=esz) (qv:z.val=true)
 {len:Nat} (hlen:len * esz≤16777216) {parts:List (Nat×AV)} {vs:Array (Nat×Value)} (hp:∀ (j:Nat) (p:Nat×AV),parts[j]?=some p→∃ v,vs.toList[j]?=some (p.1,v)∧aZ M L v p.2) (hl:vs.toList.length=parts.length)
 {K:AV→List aa→Prop} (h:bm (List.replicate len (aU z)) esz parts fun xs=>uW xs H K) :
 ∃ r x L' w' H',(Instr.buildSlice t len vs).run P w=.ok r w'∧aZ M L' r x∧(∀ own xs,x=.aj own xs→own=0)∧K x H'∧St A M L' w' H' ev ea O∧Ext A M w M w'∧L <+: L':=by
 unfold gb at hz
 obtain ⟨ie,Lv,de⟩:=zW.1 he
 simp only [Lv] at hz
 split at hz
 ·rename_i zv tH
  have Dm:=(cQ (M:=M) (L:=L) hz).aU.gR (tG qv)
  have wi:zv.cells.size=esz:=by have:=Dm.length;rw [fC,gS] at this;simpa using this
  obtain ⟨cs',xs',f1,f2,f3,f4,f5⟩:=oS (M:=M) (L:=L) esz parts vs.toList hp hl (kL zv.cells esz len wi h0 (aU z) Dm) (fun y hy=>by rw [acz hy,fC];exact gS) h
  simp only [ada] at f4
  obtain ⟨mV,hK⟩:=f5
  have bL:(Instr.buildSlice t len vs).run P w=.ok (.slice (some ⟨w.heap.size,0,none⟩) len len) { w with heap:=w.heap.push (.cells cs' e) }:=by
   by_cases ox:len * ie.size=0
   ·have Bn:len=0:=by
     rcases Nat.mul_eq_zero.1 ox with h' | h'
     ·exact h'
     ·omega
    subst Bn
    have Pj:cs'=#[]:=by
     have:=f2.length
     rw [cR _ esz f3,f4] at this
     simp at this
     exact this
    have XJ:vs.toList=[]:=by
     cases wY:vs.toList with
     | nil=>rfl
     | cons q r=>
       rw [wY] at hl
       cases parts with
       | nil=>simp at hl
       | cons p ps=>obtain ⟨_,_,h3,_⟩:=h;simp at h3
    subst Pj
    have hf:Instr.fill (fun i=>some (i * ie.size,ie.size)) #[] vs.toList=some #[]:=by rw [XJ];rfl
    simp [Instr.buildSlice,run_underlying ht,sizeOf,typeInfo,Lv,newRow,XJ,Instr.fill]
    congr 2
    apply Array.ext'
    simp
   ·rw [run_buildSlice w t e len vs cs' ie zv ht Lv tH (by rw [de];omega) ox (by rw [de];exact f1)]
    rfl
  obtain ⟨g1,g2⟩:=hs.DB cs' e f2.dj mV (oV _)
  have hbd:len < 9223372036854775808:=by
   have:len≤len * esz:=acD _ h0
   omega
  refine ⟨_,.a7 H.length 0 len len,_,_,_,bL,.a7 w.heap.size 0 _ _ H.length ?_ hbd,(by intro _ _ e;cases e),by rw [f4] at hK;exact hK,g1,g2,⟨_,rfl⟩⟩
  rw [aba (by rw [hs.len];exact tv _),hs.len];simp
 ·cases hz
theorem rV (hs:St A M L w H ev ea O) {t ty e:TypeId} {i:TypeInfo} {zv:Value} {esz bytes:Nat} (ht:P.underlying t=some (.slice e)) (hi:P.info? e=some i) (hz:i.zero=some zv) (de:i.size=esz) (rM:i.bytes=bytes) (h0:0 < esz) (rN:0 < bytes)
 {z:AV} (H5:ofValue zv=some z) (qv:z.val=true) (gS:z.cells.length=esz) (Ds:∀ y∈z.cells,∀ own xs,y=.aj own xs→own=0) {u v:Value} {s x:AV} {K:AV→List aa→Prop} {lm:Nat→Nat} (Ps:∀ id off len cap,s=.a7 id off len cap→id < H.length→lm id≤A.jb H.length id) (h:jG lm esz bytes z s x H K) (hu:aZ M L u s) (hv:aZ M L v x) :
 ∃ r y L' w' H' O',(Builtin.append_ #[t,t] ty #[u,v]).run P w=.ok r w'∧aZ M L' r y∧(∀ own xs,y=.aj own xs→own=0)∧K y H'∧St A M L' w' H' ev ea O'∧Ext A M w M w'∧L <+: L':=by
 unfold jG at h
 split at h
 ·-- out of an object
  rename_i hnone
  split at h <;> try exact h.elim
  rename_i id off len cap n ys w9
  split at h <;> try exact h.elim
  rename_i es bn
  obtain ⟨hny,lP,hroom,vR,mV,hK⟩:=h
  cases hu with
  | a7 b _ _ _ _ hl hc=>
  obtain ⟨cs,e',h1,h2,h3⟩:=fS hs bn hl
  have jQ:=h2.length
  have za:(len + n) * esz≤cap * esz:=acO _ hroom
  rw [acm] at za
  unfold w8 at w9
  split at w9
  ·simp [dA] at hnone
  ·simp [dA] at hnone
  ·rename_i id2 off2 XU XV
   split at w9 <;> try cases w9
   rename_i es2 Pt
   split at w9 <;> cases w9
   rename_i hfit2
   cases hv with
   | a7 b2 _ _ _ _ mW ni=>
   obtain ⟨cs2,e2,k1,k2,k3⟩:=fS hs Pt mW
   have aiq:=k2.length
   by_cases Dr:n=0
   ·subst Dr
    simp only [ags,List.take_zero,List.map_nil,lS,afG] at hK
    have es':H.set id (.cells es)=H:=by
     obtain ⟨mq,e1⟩:=aa0.1 bn
     rw [← e1];simp
    rw [es'] at hK
    exact ⟨_,.a7 id off len cap,L,w,H,O,dF ht hi w _ len cap (by omega) _ XV,.a7 b off len cap id hl hc,(by intro _ _ e;cases e),hK,hs,Ext.refl A M w,aaG L⟩
   ·have wm:((cs2.toList.drop off2).take (n * esz)).length=n * esz:=by
     rw [acp,ae8];omega
    have hnews:∀ j u,((cs2.toList.drop off2).take (n * esz))[j]?=some u→w.cell? ((⟨b2,off2,none⟩:Addr).add j)=some u:=fun j u hu=>by
     rw [Addr.add_lit];exact k3 _ _ (dE _ _ _ _ _ hu)
    have Br:aN M L ((cs2.toList.drop off2).take (n * esz)) ((es2.drop off2).take (n * esz)):=(k2.drop off2).take _
    have XW:=Br.iH lP
    have bL:=gT (P:=P) (ty:=ty) ht hi w b off len cap cs (0,0) h1 (pE _) ⟨b2,off2,none⟩ n XV ((cs2.toList.drop off2).take (n * esz)) (by rw [de];exact wm) hnews XW hroom (by
     have:es.length=cs.size:=by rw [← jQ];simp
     rw [de,wm];omega)
    rw [de] at bL
    obtain ⟨O',g1,g2⟩:=hs.Bx (off:=off + len * esz) bn hl h1 h2 Br (by rw [acp,ae8];omega) (bF (Ps _ _ _ _ rfl (aQ bn)) _ mV)
    exact ⟨_,.a7 id off (len + n) cap,L,_,_,O',bL,.a7 b off _ cap id hl hc,(by intro _ _ e;cases e),hK,g1,g2,aaG L⟩
  ·cases w9
 rename_i ys rO
 obtain ⟨jF,h⟩:=h
 have Dm:=(cQ (M:=M) (L:=L) H5).bR.gR (qR qv)
 have wi:zv.cells.size=esz:=by have:=Dm.length;rw [ko,gS] at this;simpa using this
 have hesz0:esz≠0:=by omega
 have LH:∀ n,aN M L (Builtin.zeroCells zv.cells n).toList (cT z n):=fun n=>by
  have:=kL (M:=M) (L:=L) zv.cells esz n wi h0 (bR z) Dm
  rw [Builtin.zeroCells,wi]
  rw [wi] at this
  exact this
 -- a new row
 have grow:∀ (olds news:List Value) (xs:List AV) (k need oldCap:Nat) (w':World),aN M L olds xs→aN M L news (flat ys)→need≤maxLen→
  w'=w.drew.alloc (.cells (olds.toArray++news.toArray++Builtin.zeroCells zv.cells (grownCap w need oldCap e - need)) e)→
  (Builtin.append_ #[t,t] ty #[u,v]).run P w=.ok (.slice (some ⟨w.heap.size,0,none⟩) need (grownCap w need oldCap e)) w'→
  (∀ dM,need≤dM→dM < 9223372036854775808→al (H.length + 1) (xs.map AV.ab++(flat ys).map AV.ab++cT z (dM - need))=true∧K (.a7 H.length 0 need dM) (H++[.cells (xs.map AV.ab++(flat ys).map AV.ab++cT z (dM - need))]))→
  ∃ r y L' w' H' O',(Builtin.append_ #[t,t] ty #[u,v]).run P w=.ok r w'∧aZ M L' r y∧(∀ own xs,y=.aj own xs→own=0)∧K y H'∧St A M L' w' H' ev ea O'∧Ext A M w M w'∧L <+: L':=by
  intro olds news xs k need oldCap w' XM Br hneed Lz bL hK
  have iq:=grownCap_ge w need oldCap e
  have hle:=grownCap_le_maxLen w need oldCap e hneed
  simp only [maxLen] at hle
  obtain ⟨mV,hK⟩:=hK _ iq (by omega)
  obtain ⟨g1,g2⟩:=hs.drew.DB (olds.toArray++news.toArray++Builtin.zeroCells zv.cells (grownCap w need oldCap e - need)) e (xs:=xs.map AV.ab++(flat ys).map AV.ab++cT z (grownCap w need oldCap e - need))
   (by rw [agy,agy];exact (XM.dj.append Br.dj).append (LH _)) mV (by
     intro y hy
     rcases abZ.1 hy with hy | hy
     ·rcases abZ.1 hy with hy | hy
      ·exact oV _ y hy
      ·exact oV _ y hy
     ·exact Ge Ds _ y hy)
  subst Lz
  refine ⟨_,.a7 H.length 0 need (grownCap w need oldCap e),L++[w.heap.size],_,_,O,bL,.a7 w.heap.size 0 _ _ H.length ?_ (by omega),(by intro _ _ e;cases e),hK,g1,Ext.drew.trans g2,⟨_,rfl⟩⟩
  rw [aba (by rw [hs.len];exact tv _),hs.len];simp
 split at h <;> try exact h.elim
 ·-- onto nothing
  obtain ⟨hbound,hn,hc⟩:=h
  cases hu
  rcases nh rO jF hv with ⟨rfl,b',c',rfl⟩ | ⟨Dr,b2,o2,c2,news,rfl,Br,SH,wm⟩
  ·exact ⟨_,.ag,L,w,H,O,dF ht hi w none 0 0 (tv _) b' c',.ag,(by intro _ _ e;cases e),hn rfl,hs,Ext.refl A M w,aaG L⟩
  ·have hnews:∀ j u,news[j]?=some u→w.cell? ((⟨b2,o2,none⟩:Addr).add j)=some u:=jm SH hs.mem
   have hlen:ys.length≤140737488355328:=acv (acD _ rN) hbound
   have hbound':ys.length * i.bytes≤140737488355328:=by rw [rM];exact hbound
   have hr:=run_append_nil (P:=P) w t ty e i zv ht hi hz ⟨b2,o2,none⟩ ys.length c2 news (by rw [de];exact wm) hnews Dr (by omega) (by first | omega | (simp at hbound';omega))
   refine grow [] news [] 0 ys.length 0 _ .nil Br (by simp only [maxLen];omega) rfl (by simpa using hr) fun dM h1 h2=>?_
   have:=hc (by intro e;rw [e] at Dr;simp at Dr) dM h1 h2
   simpa using this
 ·-- onto what is empty
  obtain ⟨hbound,hn,hc⟩:=h
  cases hu with
  | oI ad=>
  rcases nh rO jF hv with ⟨rfl,b',c',rfl⟩ | ⟨Dr,b2,o2,c2,news,rfl,Br,SH,wm⟩
  ·exact ⟨_,.oI,L,w,H,O,dF ht hi w ad 0 0 (tv _) b' c',.oI _,(by intro _ _ e;cases e),hn rfl,hs,Ext.refl A M w,aaG L⟩
  ·have hnews:∀ j u,news[j]?=some u→w.cell? ((⟨b2,o2,none⟩:Addr).add j)=some u:=jm SH hs.mem
   have hlen:ys.length≤140737488355328:=acv (acD _ rN) hbound
   have hbound':ys.length * i.bytes≤140737488355328:=by rw [rM];exact hbound
   have hK:∀ dM,ys.length≤dM→dM < 9223372036854775808→al (H.length + 1) (([]:List AV).map AV.ab++(flat ys).map AV.ab++cT z (dM - ys.length))=true∧K (.a7 H.length 0 ys.length dM) (H++[.cells (([]:List AV).map AV.ab++(flat ys).map AV.ab++cT z (dM - ys.length))]):=fun dM h1 h2=>by
    have:=hc (by intro e;rw [e] at Dr;simp at Dr) dM h1 h2
    simpa using this
   cases ad with
   | none=>
     have hr:=run_append_nil (P:=P) w t ty e i zv ht hi hz ⟨b2,o2,none⟩ ys.length c2 news (by rw [de];exact wm) hnews Dr (by omega) (by first | omega | (simp at hbound';omega))
     exact grow [] news [] 0 ys.length 0 _ .nil Br (by simp only [maxLen];omega) rfl (by simpa using hr) hK
   | some ad=>
     have hr:=run_append_grow (P:=P) w t ty e i zv ht hi hz ad 0 0 [] (by simp) (fun j v hv=>by simp at hv)
      ⟨b2,o2,none⟩ ys.length c2 news (by rw [de];exact wm) hnews (by omega) (by omega) (growslice_fits (by omega) (by simpa using hbound'))
     simp only [ach] at hr
     exact grow [] news [] 0 ys.length 0 _ .nil Br (by simp only [maxLen];omega) rfl hr hK
 ·rename_i id off len cap
  split at h <;> try exact h.elim
  rename_i es bn
  obtain ⟨hbound,Bo,vR,me,Lm⟩:=h
  cases hu with
  | a7 b _ _ _ _ hl hc=>
  obtain ⟨cs,e',h1,h2,h3⟩:=fS hs bn hl
  have jQ:=h2.length
  rcases nh rO jF hv with ⟨rfl,b',c',rfl⟩ | ⟨Dr,b2,o2,c2,news,rfl,Br,SH,wm⟩
  ·obtain ⟨_,hK⟩:=me (by simpa using Bo)
   simp only [flat,agb,List.map_nil,lS,List.length_nil,afG] at hK
   have es':H.set id (.cells es)=H:=by
    obtain ⟨mq,e1⟩:=aa0.1 bn
    rw [← e1];simp
   rw [es'] at hK
   exact ⟨_,.a7 id off len cap,L,w,H,O,dF ht hi w _ len cap Bo b' c',.a7 b off len cap id hl hc,(by intro _ _ e;cases e),hK,hs,Ext.refl A M w,aaG L⟩
  ·have hnews:∀ j u,news[j]?=some u→w.cell? ((⟨b2,o2,none⟩:Addr).add j)=some u:=jm SH hs.mem
   have lP:=Br.iH (Dp jF)
   have Pq:(flat ys).length=ys.length * esz:=cR ys esz (fun y hy=>(jF y hy).1)
   by_cases hroom:len + ys.length≤cap
   ·obtain ⟨mV,hK⟩:=me hroom
    have za:(len + ys.length) * esz≤cap * esz:=acO _ hroom
    rw [acm] at za
    have air:es.length=cs.size:=by rw [← jQ];simp
    have bL:=gT (P:=P) (ty:=ty) ht hi w b off len cap cs (0,0) h1 (pE _) ⟨b2,o2,none⟩ ys.length c2 news (by rw [de];exact wm) hnews lP hroom (by rw [de,wm];omega)
    rw [de] at bL
    obtain ⟨O',g1,g2⟩:=hs.Bx (off:=off + len * esz) bn hl h1 h2 Br (by rw [Pq];omega) (bF (Ps _ _ _ _ rfl (aQ bn)) _ mV)
    exact ⟨_,.a7 id off (len + ys.length) cap,L,_,_,O',bL,.a7 b off _ cap id hl hc,(by intro _ _ e;cases e),hK,g1,g2,aaG L⟩
   ·have hlen:(len + ys.length)≤140737488355328:=acv (acD _ rN) hbound
    have hbound':(len + ys.length) * i.bytes≤140737488355328:=by rw [rM];exact hbound
    have za:len * esz≤cap * esz:=acO _ Bo
    have ac4:((cs.toList.drop off).take (len * esz)).length=len * esz:=by rw [acp,ae8];omega
    have hr:=run_append_grow (P:=P) w t ty e i zv ht hi hz ⟨b,off,none⟩ len cap ((cs.toList.drop off).take (len * esz)) (by rw [de];exact ac4) (fun j v hv=>by rw [Addr.add_lit];exact h3 _ _ (dE _ _ _ _ _ hv))
     ⟨b2,o2,none⟩ ys.length c2 news (by rw [de];exact wm) hnews (by omega) (by omega) (growslice_fits (by omega) hbound')
    exact grow _ news ((es.drop off).take (len * esz)) 0 (len + ys.length) cap _ ((h2.drop off).take _) Br (by simp only [maxLen];omega) rfl hr fun dM a b=>Lm (by omega) dM a b
theorem Bz (hs:St A M L w H ev ea O) {t ty e:TypeId} {i:TypeInfo} {zv:Value} {esz bytes:Nat} (ht:P.underlying t=some (.slice e)) (hi:P.info? e=some i) (hz:i.zero=some zv) (de:i.size=esz) (rM:i.bytes=bytes) (h0:0 < esz) (rN:0 < bytes)
 {z:AV} (H5:ofValue zv=some z) (qv:z.val=true) (gS:z.cells.length=esz) (Ds:∀ y∈z.cells,∀ own xs,y=.aj own xs→own=0) {u v:Value} {s x:AV} {K:AV→List aa→Prop} (h:cV esz bytes z s x H K) (hu:aZ M L u s) (hv:aZ M L v x) :
 ∃ r y L' w' H' O',(Builtin.append_ #[t,t] ty #[u,v]).run P w=.ok r w'∧aZ M L' r y∧(∀ own xs,y=.aj own xs→own=0)∧K y H'∧St A M L' w' H' ev ea O'∧Ext A M w M w'∧L <+: L':=by
 rw [DA] at h
 exact rV (ty:=ty) hs ht hi hz de rM h0 rN H5 qv gS Ds (fun id _ _ _ _ bn=>A.lN bn) h hu hv
theorem BA {lo:Nat} (vQ:∀ id,lo≤id→A.top id=none) (hs:St A M L w H ev ea O) {t ty e:TypeId} {i:TypeInfo} {zv:Value} {esz bytes:Nat} (ht:P.underlying t=some (.slice e)) (hi:P.info? e=some i) (hz:i.zero=some zv) (de:i.size=esz) (rM:i.bytes=bytes) (h0:0 < esz) (rN:0 < bytes)
 {z:AV} (H5:ofValue zv=some z) (qv:z.val=true) (gS:z.cells.length=esz) (Ds:∀ y∈z.cells,∀ own xs,y=.aj own xs→own=0) {u v:Value} {s x:AV} {K:AV→List aa→Prop} (h:fJ lo esz bytes z s x H K) (hu:aZ M L u s) (hv:aZ M L v x) :
 ∃ r y L' w' H' O',(Builtin.append_ #[t,t] ty #[u,v]).run P w=.ok r w'∧aZ M L' r y∧(∀ own xs,y=.aj own xs→own=0)∧K y H'∧St A M L' w' H' ev ea O'∧Ext A M w M w'∧L <+: L':=by
 refine rV (ty:=ty) hs ht hi hz de rM h0 rN H5 qv gS Ds (fun id off len cap e bn=>?_) h.2 hu hv
 have:A.jb H.length id=H.length:=by unfold Perm.jb;rw [vQ id (h.1 _ _ _ _ e)]
 rw [this];exact tv _
theorem DC (hs:St A M L w H ev ea O) {t e:TypeId} {i:TypeInfo} {zv:Value} {esz:Nat} (ht:P.underlying t=some (.slice e)) (hi:P.info? e=some i) (hz:i.zero=some zv) (h0:0 < esz)
 {z:AV} (H5:ofValue zv=some z) (qv:z.val=true) (gS:z.cells.length=esz) {v:Value} {x:AV} {K:List aa→Prop} (h:jB esz z x H K) (hv:aZ M L v x) (ty:TypeId) :
 ∃ w' H' O',(Builtin.clear_ #[t] ty #[v]).run P w=.ok (.tuple #[]) w'∧K H'∧St A M L w' H' ev ea O'∧Ext A M w M w':=by
 unfold jB at h
 split at h <;> try exact h.elim
 rename_i id off len cap
 split at h <;> try exact h.elim
 rename_i es bn
 obtain ⟨vR,lP,mV,hK⟩:=h
 cases hv with
 | a7 b _ _ _ _ hl hc=>
 have Dm:=(cQ (M:=M) (L:=L) H5).bR.gR (qR qv)
 have wi:zv.cells.size=esz:=by have:=Dm.length;rw [ko,gS] at this;simpa using this
 have LH:aN M L (Builtin.zeroCells zv.cells len).toList (cT z len):=by
  have:=kL (M:=M) (L:=L) zv.cells esz len wi h0 (bR z) Dm
  rw [Builtin.zeroCells,wi]
  rw [wi] at this
  exact this
 obtain ⟨cs,e',h1,h2,h3⟩:=hs.obj id _ b bn hl
 have jQ:=h2.length
 have wh:(cT z len).length=len * esz:=by
  unfold cT
  rw [cR _ esz (fun y hy=>by rw [acz hy,ko];exact gS),ada]
 have rL:=LH.length
 by_cases Bn:len=0
 ·subst Bn
  have e0:cT z 0=[]:=rfl
  rw [e0] at hK
  simp only [List.map_nil,lS] at hK
  have es':H.set id (.cells es)=H:=by
   obtain ⟨mq,e1⟩:=aa0.1 bn
   rw [← e1];simp
  rw [es'] at hK
  refine ⟨w,H,O,?_,hK,hs,Ext.refl A M w⟩
  simp [Builtin.clear_,run_underlying ht]
 ·have bV:=run_storeCells_at P b off e' (Builtin.zeroCells zv.cells len).toList 0 cs w h1 (by simp at jQ ⊢;simp at rL;omega) (LH.iH lP)
  obtain ⟨O',g1,g2⟩:=hs.LC (off:=off) bn hl h1 h2 LH (by omega) mV
  refine ⟨_,_,O',?_,hK,g1,g2⟩
  have nj:(storeCells ⟨b,off,none⟩ (Builtin.zeroCells zv.cells len).toList).run P w=.ok () (w.setRow b (ah cs.toList off (Builtin.zeroCells zv.cells len).toList).toArray):=by simpa [ah] using bV
  have hzero:(zeroValue e).run P w=.ok zv w:=by simp [zeroValue,typeInfo,hi,hz]
  have ox:∃ m,len=m + 1:=⟨len - 1,by omega⟩
  obtain ⟨m,rfl⟩:=ox
  simp [Builtin.clear_,run_underlying ht,hzero,nj]
end
end Go.aI
end
section
namespace Go.aI
open Go
def Perm.entry (A:Perm) (loose:Bool) (n:Nat):Prop:=(∀ id,id < n→∃ m,m≤n∧A.top id=some m)∧∀ id,n≤id→A.top id=if loose=true then none else some (id + 1)
def lT (loose:Bool) (P:Program) (f:FuncId) (args:List AV) (H:List aa) (R:AV→List aa→Prop):Prop:=
 ∀ A M L w (vs:Array Value) O,A.entry loose H.length→vs.size=args.length→St A M L w H (fun t=>vs.getD t undef) (fun t=>args.getD t .any) O→
  ((callFunc f vs).run P w=.ok (.enter f vs) w∧Calls P f vs w fun e w'=>∃ v r H' M' L' O',e=.returned v∧R r H'∧St A M' L' w' H' (fZ (fun _=>undef) 0 v) (fZ (fun _=>.any) 0 r) O'∧Ext A M w M' w'∧L <+: L')∨
  (∃ v w' r H' M' L' O',(callFunc f vs).run P w=.ok (.value v) w'∧R r H'∧St A M' L' w' H' (fZ (fun _=>undef) 0 v) (fZ (fun _=>.any) 0 r) O'∧Ext A M w M' w'∧L <+: L')
def ax (P:Program) (f:FuncId) (args:List AV) (H:List aa) (R:AV→List aa→Prop):Prop:=lT false P f args H R
def jC (P:Program) (f:FuncId) (args:List AV) (H:List aa) (R:AV→List aa→Prop):Prop:=lT true P f args H R
theorem lT.mono {b:Bool} {P:Program} {f:FuncId} {args:List AV} {H:List aa} {R R':AV→List aa→Prop} (h:lT b P f args H R) (hr:∀ r H',R r H'→R' r H'):lT b P f args H R':=by
 intro A M L w vs O hA hs bV
 rcases h A M L w vs O hA hs bV with ⟨h1,h2⟩ | ⟨v,w',r,H',M',L',O',h1,h2,h3⟩
 ·exact .inl ⟨h1,h2.mono fun e w' ⟨v,r,H',M',L',O',h1,h2,h3⟩=>⟨v,r,H',M',L',O',h1,hr _ _ h2,h3⟩⟩
 ·exact .inr ⟨v,w',r,H',M',L',O',h1,hr _ _ h2,h3⟩
theorem ax.mono {P:Program} {f:FuncId} {args:List AV} {H:List aa} {R R':AV→List aa→Prop} (h:ax P f args H R) (hr:∀ r H',R r H'→R' r H'):ax P f args H R':=lT.mono h hr
theorem jC.mono {P:Program} {f:FuncId} {args:List AV} {H:List aa} {R R':AV→List aa→Prop} (h:jC P f args H R) (hr:∀ r H',R r H'→R' r H'):jC P f args H R':=lT.mono h hr
theorem ax.body {P:Program} {f:FuncId} {args:List AV} {H:List aa} {R:AV→List aa→Prop} (h:ax P f args H R) (he:∀ (as:Array Value) (w:World),(callFunc f as).run P w=.ok (.enter f as) w)
 {A:Perm} {M:Mem} {L:List Nat} {w:World} {vs:Array Value} {O:Pos→Option Nat} (hA:A.entry false H.length) (hs:vs.size=args.length) (bV:St A M L w H (fun t=>vs.getD t undef) (fun t=>args.getD t .any) O) :
 Calls P f vs w fun e w'=>∃ v r H' M' L' O',e=.returned v∧R r H'∧St A M' L' w' H' (fZ (fun _=>undef) 0 v) (fZ (fun _=>.any) 0 r) O'∧Ext A M w M' w'∧L <+: L':=by
 rcases h A M L w vs O hA hs bV with ⟨h1,h2⟩ | ⟨v,w',r,H',M',L',O',h1,h2,h3⟩
 ·exact h2
 ·rw [he] at h1;cases h1
structure Px where
 prog:Program
 lo:Option Nat
instance:Coe Program Px:=⟨fun P=>⟨P,none⟩⟩
def dG (P:Px) (f:FuncId) (args:List AV) (H:List aa) (R:AV→List aa→Prop):Prop:=
 match P.lo with
 | none=>ax P.prog f args H R
 | some l=>ax P.prog f args H R∨(l≤H.length∧jC P.prog f args H R)
theorem dG.of {P:Px} {f:FuncId} {args:List AV} {H:List aa} {R:AV→List aa→Prop} (h:ax P.prog f args H R):dG P f args H R:=by
 unfold dG;split
 ·exact h
 ·exact .inl h
theorem dG.ofL {P:Program} {l:Nat} {f:FuncId} {args:List AV} {H:List aa} {R:AV→List aa→Prop} (hl:l≤H.length) (h:jC P f args H R):dG ⟨P,some l⟩ f args H R:=.inr ⟨hl,h⟩
theorem dG.mono {P:Px} {f:FuncId} {args:List AV} {H:List aa} {R R':AV→List aa→Prop} (h:dG P f args H R) (hr:∀ r H',R r H'→R' r H'):dG P f args H R':=by
 unfold dG at *;split at h
 ·exact h.mono hr
 ·rcases h with h | ⟨h1,h2⟩
  ·exact .inl (h.mono hr)
  ·exact .inr ⟨h1,h2.mono hr⟩
def fW (loose:Bool) (P:Program) (id:Nat) (args:List AV) (H:List aa) (R:AV→List aa→Prop):Prop:=
 ∀ A M L w (vs:Array Value) O b,A.entry loose H.length→vs.size=args.length→L[id]?=some b→St A M L w H (fun t=>vs.getD t undef) (fun t=>args.getD t .any) O→
  ∃ fn tmps as bd,(Instr.yield b vs).run P w=.ok (.round b fn tmps as bd) w∧RoundIn Fence.wide 0 P b fn tmps as bd w fun e w'=>
   ∃ v r H' M' L' O',e=.returned v∧R r H'∧St A M' L' w' H' (fZ (fun _=>undef) 0 v) (fZ (fun _=>.any) 0 r) O'∧Ext A M w M' w'∧L <+: L'
theorem fW.mono {b:Bool} {P:Program} {id:Nat} {args:List AV} {H:List aa} {R R':AV→List aa→Prop} (h:fW b P id args H R) (hr:∀ r H',R r H'→R' r H'):fW b P id args H R':=by
 intro A M L w vs O c hA hs hc bV
 obtain ⟨fn,tmps,as,bd,h1,h2⟩:=h A M L w vs O c hA hs hc bV
 exact ⟨fn,tmps,as,bd,h1,h2.mono fun e w' ⟨v,r,H',M',L',O',h1,h2,h3⟩=>⟨v,r,H',M',L',O',h1,hr _ _ h2,h3⟩⟩
def kP (P:Program) (id:Nat) (args:List AV) (H:List aa) (R:AV→List aa→Prop):Prop:=fW false P id args H R
def Pu (P:Program) (id:Nat) (args:List AV) (H:List aa) (R:AV→List aa→Prop):Prop:=fW true P id args H R
def nr (P:Px) (id:Nat) (args:List AV) (H:List aa) (R:AV→List aa→Prop):Prop:=
 match P.lo with
 | none=>kP P.prog id args H R
 | some l=>kP P.prog id args H R∨(l≤H.length∧Pu P.prog id args H R)
theorem nr.mono {P:Px} {id:Nat} {args:List AV} {H:List aa} {R R':AV→List aa→Prop} (h:nr P id args H R) (hr:∀ r H',R r H'→R' r H'):nr P id args H R':=by
 unfold nr at *;split at h
 ·exact fW.mono h hr
 ·rcases h with h | ⟨h1,h2⟩
  ·exact .inl (fW.mono h hr)
  ·exact .inr ⟨h1,fW.mono h2 hr⟩
def ze:List AV→List AV→Prop
 | [],[]=>True
 | x::xs,y::ys=>x.le y∧ze xs ys
 | _,_=>False
def aL (env:Env) (pass:Option Nat):Nat→List IX→List AV
 | _,[]=>[]
 | j,.t s::xs=>(if pass=some j then get env s else (get env s).ab)::aL env pass (j + 1) xs
 | j,.c v::xs=>v.ab::aL env pass (j + 1) xs
def bh (args:List IX) (pass:Option Nat):Option Nat:=
 match pass with
 | some j=>match args[j]? with
   | some (.t s)=>some s
   | _=>none
 | none=>none
def cL (env:Env) (s:Option Nat):Env:=match s with | some d=>(d,(get env d).ab)::env | none=>env
def qz (P:Px) (f:AV) (args:List IX) (pass:Option Nat) (env:Env) (H:List aa) (K:AV→Env→List aa→Prop):Prop:=
 match f with
 | .fn (.func g) first cap=>∃ bX,ze (first.map AV.ab++aL env pass 0 args++cap.map AV.ab) bX∧dG P g bX H (fun r H'=>K r (cL env (bh args pass)) H')
 | .oJ id=>∃ bX,ze (aL env pass 0 args) bX∧nr P id bX H (fun r H'=>K r (cL env (bh args pass)) H')
 | _=>False
def aO (kd:Nat) (x:AV):Prop:=
 match kd,x with
 | 0,.str _=>True
 | 1,.ag=>True
 | 1,.aj _ _=>True
 | 1,.a7 _ _ _ _=>True
 | 1,.oI=>True
 | 2,.jR=>True
 | 2,.map _=>True
 | _,_=>False
def gU (env:Env) (x:Option IX):Option AV:=x.map (au env)
def bD (P:Px) (o:ch) (dst:Option Nat) (env:Env) (H:List aa) (K:Env→List aa→Prop):Prop:=
 match o with
 | .set x take=>match dst with | some d=>K (vO env d x take) H | none=>K env H
 | .pick c a b=>fA (au env c) fun q=>(q=true→K (put dst (au env a).ab env) H)∧(q=false→K (put dst (au env b).ab env) H)
 | .bin op x y=>dl op (au env x) (au env y) fun z=>K (put dst z env) H
 | .shift op x y=>eE op (au env x) (au env y) fun z=>K (put dst z env) H
 | .jl neq x y=>dc neq (au env x) (au env y) fun z=>K (put dst z env) H
 | .kg kd neq x=>dx kd neq (au env x) fun z=>K (put dst z env) H
 | .un op x=>Bk op (au env x) fun z=>K (put dst z env) H
 | .box x=>(au env x).val=true∧al (H.length + 1) ((au env x).cells.map AV.ab)=true∧K (put dst (.ptr H.length 0) env) (H++[.cells ((au env x).cells.map AV.ab)])
 | .m8 x=>(au env x).val=true∧K (put dst (.ai (au env x)) env) H
 | .tC m x=>(au env x).val=true∧(au env x).cells.length=m∧(au env x).cells.all AV.one=true∧K (put dst (.ai (au env x)) env) H
 | .alloc z=>al (H.length + 1) (z.cells.map AV.ab)=true∧K (put dst (.ptr H.length 0) env) (H++[.cells (z.cells.map AV.ab)])
 | .build z ps=>cD z.cells (ps.map fun q=>(q.1,q.2.1,au env q.2.2)) fun v=>K (put dst v env) H
 | .buildSlice own esz z len ps=>bm (List.replicate len (aU z)) esz (ps.map fun q=>(q.1,au env q.2)) fun xs=>K (put dst (.aj own xs) env) H
 | .load sz a=>aY sz (au env a) H fun z=>K (put dst z env) H
 | .uO sz esz a=>aY sz (au env a) H fun z=>gf esz z H fun y H'=>K (put dst y env) H'
 | .eY a=>match dst,au env a with
   | some d,.ptr id off=>match H[id]? with
     | some (.cells es)=>off < es.length∧K ((d,es.getD off .any)::env) (H.set id (.cells (es.set off (es.getD off .any).ab)))
     | _=>False
   | _,_=>False
 | .store m a x=>jn m (au env a) (au env x) H fun H'=>K env H'
 | .oM m a x=>match P.lo with | some l=>iL l m (au env a) (au env x) H fun H'=>K env H' | none=>False
 | .fR a s=>eF (au env a) (get env s) H fun H'=>K ((s,(get env s).ab)::env) H'
 | .nilCheck x=>b9 (au env x) fun z=>K (put dst z env) H
 | .fieldAddr off sz x=>ap off sz (au env x) fun z=>K (put dst z env) H
 | .field off sz x=>fB off sz (au env x) fun z=>K (put dst z env) H
 | .indexAddr esz x i=>(∀ own xs,au env x=.aj own xs→∀ z∈xs,z.cells.length=esz)∧aE esz (au env x) (au env i) fun z=>K (put dst z env) H
 | .dm x i=>bO (au env x) (au env i) fun z=>K (put dst z env) H
 | .eC n x i=>b8 n (au env x) (au env i) fun z=>K (put dst z env) H
 | .qP esz x lo hi mx=>(∀ own xs,au env x=.aj own xs→∀ z∈xs,z.cells.length=esz)∧fH esz (au env x) (gU env lo) (gU env hi) (gU env mx) fun z=>z=.aj esz []∧K (put dst .oI env) H
 | .slice esz x lo hi mx=>bC esz (au env x) (gU env lo) (gU env hi) (gU env mx) fun z=>K (put dst z env) H
 | .copy esz d s=>kN esz (au env d) (au env s) H fun z H'=>K (put dst z env) H'
 | .eD x lo hi=>cv (au env x) (gU env lo) (gU env hi) fun z=>K (put dst z env) H
 | .len kd x=>aO kd (au env x)∧fj (au env x) H fun z=>K (put dst z env) H
 | .append esz bytes s x=>bw esz bytes (au env s) (au env x) fun zs=>K (put dst (.aj esz zs) (cL env s.slot)) H
 | .uP esz bytes z n=>fF esz bytes z (au env n) H fun v H'=>K (put dst v env) H'
 | .oN esz bytes n=>jU esz bytes (au env n) fun v=>K (put dst v env) H
 | .oO=>K (put dst (.map H.length) env) (H++[.map []])
 | .lookup kd z m k ok=>cB kd z (au env m) (au env k) ok H fun v=>K (put dst v env) H
 | .lO kd m k x=>fV kd (au env m) (au env k) (au env x) H fun H'=>K env H'
 | .fn f first cap=>K (put dst (.fn f (first.map fun x=>(au env x).ab) (cap.map fun x=>(au env x).ab)) env) H
 | .extract x i=>bK (au env x) i fun z=>K (put dst z env) H
 | .call f args pass=>qz P (au env f) args pass env H fun r aK H'=>K (put dst r aK) H'
 | .fp k x=>cI k (au env x) fun z=>K (put dst z env) H
 | .iI x=>gA (au env x) fun z=>K (put dst z env) H
 | .bytesOf x=>fI 1 (au env x) fun z=>K (put dst z env) H
 | .strOf x=>kM (au env x) fun z=>K (put dst z env) H
 | .mx big a b=>yY big (au env a) (au env b) fun z=>K (put dst z env) H
 | .Bi esz x=>gf esz (au env x) H fun z H'=>K (put dst z env) H'
 | .Dg esz z len ps=>bm (List.replicate len (aU z)) esz (ps.map fun q=>(q.1,au env q.2)) fun xs=>uW xs H fun v H'=>K (put dst v env) H'
 | .kj esz bytes z s x=>cV esz bytes z (au env s) (au env x) H fun v H'=>K (put dst v env) H'
 | .km esz bytes z s x=>match P.lo with | some l=>fJ l esz bytes z (au env s) (au env x) H fun v H'=>K (put dst v env) H' | none=>False
 | .oP esz z x=>jB esz z (au env x) H fun H'=>K (put dst (.tuple []) env) H'
 | .never=>False
def cw (P:Program) (e:TypeId):Option (Nat×AV):=
 match dY P e,gb P e with
 | some esz,some z=>if 0 < esz∧z.cells.length=esz∧z.val=true then some (esz,z) else none
 | _,_=>none
def xc (P:Program) (e:TypeId):Option Nat:=(P.info? e).map (·.bytes)
def xd (z:AV):Bool:=z.cells.all fun y=>match y with | .aj own _=>own == 0 | _=>true
def lz:Option Operand→Option (Option IX)
 | none=>some none
 | some x=>(aW x).map some
def LI (x y:Operand):Bool:=match x,y with | .tmp a,.tmp b=>a == b | .const (.int .i64 a),.const (.int .i64 b)=>a == b | _,_=>false
def cE (P:Program) (o:Oper) (fl:Nat):Option ch:=
 match o.op with
 | .move x | .assign x=>(aW x).map fun i=>.set i (fl == 1)
 | .pick c a b=>match aW c,aW a,aW b with
   | some c,some a,some b=>some (.pick c a b)
   | _,_,_=>none
 | .binOp op t x y _=>match aW x,aW y with
   | some i,some j=>match op with
     | .shl | .shr=>some (.shift op i j)
     | .eql | .neq=>match P.underlying t with
       | some .bool=>some (.jl (op matches .neq) i j)
       | some (.int _) | some .string=>some (.bin op i j)
       | some (.slice _)=>match y with | .const (.slice none 0 0)=>some (.kg 0 (op matches .neq) i) | _=>none
       | some (.pointer _)=>match y with | .const (.pointer none)=>some (.kg 1 (op matches .neq) i) | _=>none
       | some (.map _ _)=>match y with | .const (.map none)=>some (.kg 2 (op matches .neq) i) | _=>none
       | some (.func _ _ _)=>match y with | .const .nilFunc=>some (.kg 3 (op matches .neq) i) | _=>none
       | _=>none
     | _=>some (.bin op i j)
   | _,_=>none
 | .unOp op _ x=>(aW x).map fun i=>.un op i
 | .box _ x=>(aW x).map fun i=>if fl=1 then .m8 i else .box i
 | .alloc e=>match gb P e with
   | some z=>if z.val=true then some (.alloc z) else none
   | none=>none
 | .build t ps=>match F3 P t with
   | some (z,places)=>match fT places ps.toList with
     | some qs=>if z.val=true then some (.build z qs) else none
     | none=>none
   | none=>none
 | .buildSlice t len ps=>match P.underlying t with
   | some (.slice e)=>match cw P e,kK ps.toList with
     | some (esz,z),some qs=>if len * esz≤16777216 then some (if fl=2 then .Dg esz z len qs else .buildSlice (if fl=1 then esz else 0) esz z len qs) else none
     | _,_=>none
   | _=>none
 | .load t a=>match K5 P t,aW a with
   | some sz,some i=>if fl=1 then (if sz=none then some (.eY i) else none) else if 3000 < fl then some (.uO sz (fl - 3000) i) else some (.load sz i)
   | _,_=>none
 | .store t a x=>match dY P t,aW a,aW x with
   | some m,some i,some j=>if fl=1 then (match j with | .t s=>if m=1 then some (.fR i s) else none | _=>none) else if fl=2 then some (.oM m i j) else some (.store m i j)
   | _,_,_=>none
 | .nilCheck x=>(aW x).map .nilCheck
 | .fieldAddr s x f=>match tF P s f,aW x with
   | some (off,sz),some i=>some (.fieldAddr off sz i)
   | _,_=>none
 | .field s x f=>match tF P s f,aW x with
   | some (off,sz),some i=>some (.field off sz i)
   | _,_=>none
 | .indexAddr t x i=>match P.underlying t,aW x,aW i with
   | some (.slice e),some j,some k=>(dY P e).map fun esz=>.indexAddr esz j k
   | _,_,_=>none
 | .index t x i=>match P.underlying t,aW x,aW i with
   | some .string,some j,some k=>some (.dm j k)
   | some (.array n e),some j,some k=>if K5 P e=some none then some (.eC n j k) else none
   | _,_,_=>none
 | .slice t x lo hi mx=>match P.underlying t,aW x,lz lo,lz hi,lz mx with
   | some (.slice e),some i,some l,some h,some m=>match dY P e with
     | some esz=>if 0 < esz then some (if fl=4 then .qP esz i l h m else .slice esz i l h m) else none
     | none=>none
   | some .string,some i,some l,some h,some none=>some (.eD i l h)
   | _,_,_,_,_=>none
 | .makeSlice t l c=>match P.underlying t,aW c with
   | some (.slice e),some k=>match cw P e,xc P e with
     | some (esz,z),some bytes=>if 0 < bytes∧xd z=true then (match l with
        | .const (.int .i64 0)=>some (.oN esz bytes k)
        | _=>if LI l c=true then some (.uP esz bytes z k) else none) else none
     | _,_=>none
   | _,_=>none
 | .makeMap _ none=>some .oO
 | .lookup t m k ok=>match P.underlying t,aW m,aW k with
   | some (.map kt et),some i,some j=>match pG P kt,gb P et with
     | some kd,some z=>some (.lookup kd z i j ok)
     | _,_=>none
   | _,_,_=>none
 | .mapUpdate t m k x=>match P.underlying t,aW m,aW k,aW x with
   | some (.map kt _),some i,some j,some y=>(pG P kt).map fun kd=>.lO kd i j y
   | _,_,_,_=>none
 | .makeFunc f first cap=>match gn first.toList,gn cap.toList with
   | some i,some j=>some (.fn f i j)
   | _,_=>none
 | .extract x i=>(aW x).map fun j=>.extract j i
 | .convert src dst x=>match P.underlying src,P.underlying dst,aW x with
   | some (.int _),some (.int k),some i=>some (.fp k i)
   | some .string,some .string,some i=>some (.iI i)
   | some .string,some (.slice e),some i=>match P.underlying e with
     | some (.int .u8)=>some (.bytesOf i)
     | _=>none
   | some (.slice e),some .string,some i=>match P.underlying e with
     | some (.int .u8)=>some (.strOf i)
     | _=>none
   | _,_,_=>none
 | .call c=>match c.callee with
   | .value f=>match aW f,gn c.args.toList with
     | some i,some js=>some (.call i js (if fl=0 then none else some (fl - 1)))
     | _,_=>none
   | .builtin .len=>match c.args.toList,c.argTypes.toList with
     | [x],[t]=>match P.underlying t,aW x with
       | some .string,some i=>some (.len 0 i)
       | some (.slice _),some i=>some (.len 1 i)
       | some (.map _ _),some i=>some (.len 2 i)
       | _,_=>none
     | _,_=>none
   | .builtin .append=>match c.args.toList,c.argTypes.toList with
     | [s,x],[t,t']=>if t=t' then (match P.underlying t,aW s,aW x with
        | some (.slice e),some i,some j=>match cw P e,xc P e with
          | some (esz,z),some bytes=>if 0 < bytes then (if fl=2 then (if xd z=true then some (.kj esz bytes z i j) else none) else if fl=3 then (if xd z=true then some (.km esz bytes z i j) else none) else some (.append esz bytes i j)) else none
          | _,_=>none
        | _,_,_=>none) else none
     | _,_=>none
   | .builtin .max=>match c.args.toList with
     | [x,y]=>match aW x,aW y with
       | some i,some j=>some (.mx true i j)
       | _,_=>none
     | _=>none
   | .builtin .min=>match c.args.toList with
     | [x,y]=>match aW x,aW y with
       | some i,some j=>some (.mx false i j)
       | _,_=>none
     | _=>none
   | _=>none
 | _=>none
def rW (P:Program) (o:Oper):ch:=
 match o.op with
 | .call c=>match c.callee with
   | .builtin .copy=>match c.args.toList,c.argTypes.toList with
     | [s,x],[t,_]=>match P.underlying t,aW s,aW x with
        | some (.slice e),some i,some j=>match dY P e with
          | some esz=>.copy esz i j
          | none=>.never
        | _,_,_=>.never
     | _,_=>.never
   | .builtin .clear=>match c.args.toList,c.argTypes.toList with
     | [s],[t]=>match P.underlying t,aW s with
        | some (.slice e),some i=>match cw P e with
          | some (esz,z)=>.oP esz z i
          | none=>.never
        | _,_=>.never
     | _,_=>.never
   | _=>.never
 | _=>.never
def oW (P:Program) (o:Oper):ch:=
 match o.op with
 | .move x | .assign x=>match aW x,P.underlying o.type with
   | some i,some (.slice e)=>match dY P e with
     | some esz=>.Bi esz i
     | none=>.never
   | _,_=>.never
 | _=>.never
def mr (esz:Nat) (o:Oper):ch:=
 match o.op with
 | .move x | .assign x=>match aW x with
   | some i=>.Bi esz i
   | none=>.never
 | _=>.never
def Pv (o:Oper):Bool:=match o.op with | .load _ _=>false | _=>true
def DD (P:Program) (o:Oper) (fl:Nat):ch:=if fl=3000 then oW P o else if 3000 < fl∧Pv o=true then mr (fl - 3000) o else (cE P o fl).getD (rW P o)
end Go.aI
end
section
namespace Go.aI
open Go
section
variable {ro:Option Nat} {P:Program} {lo:Option Nat} {A:Perm} {n:Nat} {M:Mem} {L:List Nat} {w:World} {H:List aa} {env:Env} {O:Pos→Option Nat} {a:Act} {Q:Exit→Act→World→Prop} {K:Env→List aa→Prop}
theorem bU {o:Oper} (hf:Fr A n M L w H env O a) (hd:∀ d,o.dst=some d→d < n)
 (h:∃ r z,(execOp a.eval o).run P w=.ok (.value r) w∧aZ M L r z∧K (put o.dst z env) H∧∀ own xs,z=.aj own xs→own=0):o.wpIn (wf ro) 0 P a w (ow A n M L w K) Q:=by
 obtain ⟨r,z,h1,h2,h3,h4⟩:=h
 exact wp_pure hf hd h1 h2 h4 h3
theorem bc {s:Sem Value} {r:Value} {w':World} (h:s.run P w=.ok r w'):(do pure (Next.value (← s)):Sem Next).run P w=.ok (.value r) w':=by
 simp only [Sem.run_bind,h,Result.andThen_ok,Sem.run_pure]
theorem rX {s:Sem Unit} {w':World} (h:s.run P w=.ok () w'):(do s;pure Next.skip:Sem Next).run P w=.ok .skip w':=by
 simp only [Sem.run_bind,h,Result.andThen_ok,Sem.run_pure]
theorem pI {o:Oper} (hf:Fr A n M L w H env O a) (hd:∀ d,o.dst=some d→d < n) {r:Value} {z:AV} {w':World} {M':Mem} {L':List Nat} {H':List aa} (bL:(execOp a.eval o).run P w=.ok (.value r) w')
 (hr:aZ M' L' r z) (hz:∀ own xs,z=.aj own xs→own=0) (bV:St A M' L' w' H' (fun t=>a.tmps.getD t undef) (get env) O) (cJ:Ext A M w M' w') (hL:L <+: L') (hK:K (put o.dst z env) H'):o.wpIn (wf ro) 0 P a w (ow A n M L w K) Q:=by
 obtain ⟨O',qn⟩:=(hf.mono bV cJ).oK hd hr hz
 exact df bL ⟨M',L',H',_,O',hK,qn,cJ,hL⟩
theorem xe {o:Oper} {aK:Env} {O':Pos→Option Nat} (hf:Fr A n M L w H env O a) (hd:∀ d,o.dst=some d→d < n) {r:Value} {z:AV} {w':World} {M':Mem} {ob:Option Nat} (bL:(execOp a.eval o).run P w=.ok (.value r) w')
 (hr:aZ M' L r z) (HV:bj M' w' r z ob) (bV:St A M' L w' H (fun t=>a.tmps.getD t undef) (get aK) O') (cJ:Ext A M w M' w') (h1:∀ q b,ob=some b→O' q≠some b) (h2:∀ b,ob=some b→b∉L∧b < w'.heap.size∧A b) (hK:K (put o.dst z aK) H):o.wpIn (wf ro) 0 P a w (ow A n M L w K) Q:=by
 have qn:Fr A n M' L w' H aK O' a:=⟨bV,hf.size,hf.defers.ext cJ⟩
 refine df bL ?_
 cases gV:o.dst with
 | none=>rw [gV] at hK;exact ⟨M',L,H,_,O',hK,qn,cJ,aaG L⟩
 | some d=>
   rw [gV] at hK
   exact ⟨M',L,H,_,_,hK,qn.FX (hd d gV) hr ob HV (fun q b hb hq=>absurd hq (h1 q b hb)) h2,cJ,aaG L⟩
theorem z9 {o:Oper} {x:Operand} (ho:o.op=.move x∨o.op=.assign x) {i:IX} (hc:aW x=some i) {take:Bool} (hf:Fr A n M L w H env O a) (hd:∀ d,o.dst=some d→d < n)
 (h:bD ⟨P,lo⟩ (.set i take) o.dst env H K):o.wpIn (wf ro) 0 P a w (ow A n M L w K) Q:=by
 have bL:(execOp a.eval o).run P w=.ok (.value (a.eval x)) w:=by
  rcases ho with ho | ho <;> simp [execOp,ho]
 have hr:=hf.eval hc
 simp only [bD] at h
 cases gV:o.dst with
 | none=>
   rw [gV] at h
   refine df bL ⟨M,L,H,env,O,h,?_,Ext.refl A M w,aaG L⟩
   rw [gV];exact hf
 | some d=>
   rw [gV] at h
   have XX:=hd d gV
   have h:K (vO env d i take) H:=h
   unfold vO at h
   split at h
   ·rename_i s _
    -- the list moves
    cases x with
    | tmp t=>
      have hts:t=s:=by simpa [aW] using hc
      subst hts
      have oU:=hf.st.oK t (v:=a.tmps.getD t undef) (x:=(get env t).ab) (hf.st.env t).ab (AV.bQ _)
      have XK:fZ (fun t=>a.tmps.getD t undef) t (a.tmps.getD t undef)=fun t=>a.tmps.getD t undef:=by funext t';simp only [fZ];split;rename_i e0;rw [e0];rfl
      rw [XK] at oU
      have FO:Fr A n M L w H ((t,(get env t).ab)::env) (eT O (.t t) none) a:=⟨oU,hf.size,hf.defers⟩
      have uX:=FO.FX XX (v:=a.tmps.getD t undef) (x:=get env t) (hf.st.env t) (O (.t t)) (hf.st.je t) (fun p b hb hp=>by
       simp only [eT] at hp
       split at hp
       ·cases hp
       ·rename_i n';exact absurd (hf.st.cq _ _ b hp hb) n') (fun b hb=>⟨hf.st.cC _ b hb,hf.st.fP _ b hb,hf.st.Oa _ b hb⟩)
      rw [← gV] at uX
      exact df bL ⟨M,L,H,_,_,h,uX,Ext.refl A M w,aaG L⟩
    | const v=>simp only [aW] at hc;obtain ⟨y,_,hy⟩:=zW.1 hc;cases hy
    | func f=>simp [aW] at hc
    | global g=>simp [aW] at hc
   ·have uX:=hf.FX XX hr.ab none (bj.free (AV.bQ _)) (fun p b e=>by cases e) (fun b e=>by cases e)
    rw [← gV] at uX
    exact df bL ⟨M,L,H,_,_,h,uX,Ext.refl A M w,aaG L⟩
theorem xf {o:Oper} {t:TypeId} {x:Operand} (ho:o.op=.load t x) (ht:K5 P t=some none) {i:IX} (hc:aW x=some i) (hf:Fr A n M L w H env O a) (hd:∀ d,o.dst=some d→d < n)
 (h:bD ⟨P,lo⟩ (.eY i) o.dst env H K):o.wpIn (wf ro) 0 P a w (ow A n M L w K) Q:=by
 have hr:=hf.eval hc
 simp only [bD] at h
 split at h <;> try exact h.elim
 rename_i d id off gV hx
 split at h <;> try exact h.elim
 rename_i es bn
 obtain ⟨qk,hK⟩:=h
 rw [hx] at hr
 generalize hu:a.eval x=u at hr
 cases hr with
 | ptr b _ _ hl=>
 obtain ⟨cs,e,h1,h2,h3⟩:=fS hf.st bn hl
 have hlen:=h2.length
 obtain ⟨r1,r2⟩:=eZ (w:=w) (m:=0) ht
 have Bo:off < cs.toList.length:=by omega
 have hcell:=h3 off cs.toList[off] (by simp)
 have gr:=h2.getD off
 have e0:cs.toList.getD off undef=cs.toList[off]:=by rw [tu,T1 Bo];rfl
 rw [e0] at gr
 have bL:(execOp a.eval o).run P w=.ok (.value cs.toList[off]) w:=by
  simp only [execOp,ho,hu]
  exact bc (by simp only [Instr.loadAt,Instr.sureAddr,loadVar,Sem.run_bind,Sem.run_pure,Result.andThen_ok,r1,acg,if_false,run_load,hcell])
 have bV:=hf.st.Js bn hl qk
 have FO:Fr A n M L w (H.set id (.cells (es.set off (es.getD off .any).ab))) env (eT O (.c id off) none) a:=⟨bV,hf.size,hf.defers⟩
 have HV:bj M w cs.toList[off] (es.getD off .any) (O (.c id off)):=by
  have h0:=hf.st.jc id off
  have e3:bT L w id off=cs.toList[off]:=by unfold bT;simp only [hl,hcell];rfl
  have e4:bE H id off=es.getD off .any:=by unfold bE;simp [bn]
  rwa [e3,e4] at h0
 have uX:=FO.FX (hd d gV) gr (O (.c id off)) HV (fun p b hb hp=>by
  simp only [eT] at hp
  split at hp
  ·cases hp
  ·rename_i n';exact absurd (hf.st.cq _ _ b hp hb) n') (fun b hb=>⟨hf.st.cC _ b hb,hf.st.fP _ b hb,hf.st.Oa _ b hb⟩)
 rw [← gV] at uX
 exact df bL ⟨M,L,_,_,_,hK,uX,Ext.refl A M w,aaG L⟩
theorem zg {o:Oper} {t:TypeId} {x y:Operand} (ho:o.op=.store t x y) (ht:dY P t=some 1) {i:IX} {s:Nat} (hc:aW x=some i) (hy:aW y=some (.t s)) (hf:Fr A n M L w H env O a)
 (gV:o.dst=none) (h:bD ⟨P,lo⟩ (.fR i s) o.dst env H K):o.wpIn (wf ro) 0 P a w (ow A n M L w K) Q:=by
 have hr:=hf.eval hc
 simp only [bD] at h
 have rO:y=.tmp s:=by
  cases y with
  | tmp t=>simp [aW] at hy;rw [hy]
  | const v=>simp only [aW] at hy;obtain ⟨z,_,hz⟩:=zW.1 hy;cases hz
  | func f=>simp [aW] at hy
  | global g=>simp [aW] at hy
 subst rO
 obtain ⟨w',H',O',h1,h2,h3,h4⟩:=Bp (P:=P) hf.st ht h hr s rfl rfl
 have bL:(execOp a.eval o).run P w=.ok .skip w':=by
  simp only [execOp,ho]
  exact rX h1
 have uX:Fr A n M L w' H' ((s,(get env s).ab)::env) O' (a.put o.dst undef):=by
  rw [gV];exact ⟨h3,hf.size,hf.defers.ext h4⟩
 exact m9 bL ⟨M,L,H',_,O',h2,uX,h4,aaG L⟩
theorem BB {o:Oper} {t e:TypeId} {s x:Operand} (ho:o.op=.call { callee:=.builtin .append,args:=#[s,x],argTypes:=#[t,t] }) (ht:P.underlying t=some (.slice e)) {esz bytes:Nat} {z:AV} (hz:cw P e=some (esz,z)) (hb:xc P e=some bytes) (rN:0 < bytes)
 {i j:IX} (hi:aW s=some i) (hj:aW x=some j) (hf:Fr A n M L w H env O a) (hd:∀ d,o.dst=some d→d < n)
 (h:bD ⟨P,lo⟩ (.append esz bytes i j) o.dst env H K):o.wpIn (wf ro) 0 P a w (ow A n M L w K) Q:=by
 simp only [bD] at h
 have vW:=hf.eval hi
 have XZ:=hf.eval hj
 unfold cw at hz
 split at hz <;> try cases hz
 rename_i esz' z' OO ni
 split at hz <;> cases hz
 rename_i hcond
 obtain ⟨h0,gS,qv⟩:=hcond
 obtain ⟨inf,iK,de⟩:=zW.1 OO
 obtain ⟨inf',oX,rM⟩:=zW.1 hb
 rw [iK] at oX;cases oX
 unfold gb at ni
 simp only [iK] at ni
 split at ni <;> try cases ni
 rename_i zv tH
 have wi:zv.cells.size=esz:=by have:=((cQ (M:=M) (L:=L) ni).gR qv).length;rw [gS] at this;simpa using this
 have Pl:match i.slot with | some d=>(fun t=>a.tmps.getD t undef) d=a.eval s∧get env d=au env i | none=>au env i=.ag:=by
  cases s with
  | tmp t=>simp [aW] at hi;subst hi;exact ⟨rfl,rfl⟩
  | const v=>
    simp only [aW] at hi
    obtain ⟨y,hy,rfl⟩:=zW.1 hi
    simp only [IX.slot,au]
    have h2:=h
    simp only [au,bw] at h2
    split at h2 <;> try exact h2.elim
    rename_i eR _
    unfold oa at eR
    split at eR
    ·rfl
    ·-- a constant is never an owned list
     exfalso
     unfold ofValue at hy
     split at hy
     ·obtain ⟨_,_,hq⟩:=zW.1 hy;cases hq
     ·unfold XH at hy;split at hy <;> cases hy
    ·cases eR
  | func f=>
    simp [aW] at hi;subst hi
    simp only [au,bw,oa] at h
  | global g=>simp [aW] at hi
 obtain ⟨r,w',M',O',ob,zs,g1,g2,g3,g4,g5,g6,g7,g8⟩:=Dq (P:=P) (ty:=o.type) hf.st ht iK tH de rM wi h0 rN h i.slot vW Pl XZ
 have bL:(execOp a.eval o).run P w=.ok (.value r) w':=by
  simp only [execOp,ho,resolve,invoke,builtin,Sem.run_bind,Sem.run_pure,Result.andThen_ok,ac9,List.map_cons,List.map_nil,g1]
 have FW:lQ (get env) i.slot=get (cL env i.slot):=by
  cases i.slot with
  | none=>rfl
  | some d=>rfl
 rw [FW] at g5
 exact xe hf hd bL g3 g4 g5 g6 g7 g8 g2
theorem zh {o:Oper} {t e:TypeId} {s x:Operand} (ho:o.op=.call { callee:=.builtin .append,args:=#[s,x],argTypes:=#[t,t] }) (ht:P.underlying t=some (.slice e)) {esz bytes:Nat} {z:AV} (hz:cw P e=some (esz,z)) (hb:xc P e=some bytes) (rN:0 < bytes) (BC:xd z=true)
 {i j:IX} (hi:aW s=some i) (hj:aW x=some j) (hf:Fr A n M L w H env O a) (hd:∀ d,o.dst=some d→d < n)
 (h:bD ⟨P,lo⟩ (.kj esz bytes z i j) o.dst env H K):o.wpIn (wf ro) 0 P a w (ow A n M L w K) Q:=by
 simp only [bD] at h
 have vW:=hf.eval hi
 have XZ:=hf.eval hj
 unfold cw at hz
 split at hz <;> try cases hz
 rename_i esz' z' OO ni
 split at hz <;> cases hz
 rename_i hcond
 obtain ⟨h0,gS,qv⟩:=hcond
 obtain ⟨inf,iK,de⟩:=zW.1 OO
 obtain ⟨inf',oX,rM⟩:=zW.1 hb
 rw [iK] at oX;cases oX
 unfold gb at ni
 simp only [iK] at ni
 split at ni <;> try cases ni
 rename_i zv tH
 have Ds:∀ y∈z.cells,∀ own xs,y=.aj own xs→own=0:=by
  intro y hy own xs e
  have:=aaO.1 BC y hy
  subst e
  simpa using this
 obtain ⟨r,y,L',w',H',O',g1,g2,g3,g4,g5,g6,g7⟩:=Bz (P:=P) (ty:=o.type) hf.st ht iK tH de rM h0 rN ni qv gS Ds h vW XZ
 have bL:(execOp a.eval o).run P w=.ok (.value r) w':=by
  simp only [execOp,ho,resolve,invoke,builtin,Sem.run_bind,Sem.run_pure,Result.andThen_ok,ac9,List.map_cons,List.map_nil,g1]
 have FO:Fr A n M L' w' H' env O' a:=⟨g5,hf.size,hf.defers.ext g6⟩
 obtain ⟨O'',qn⟩:=FO.oK hd g2 g3
 exact df bL ⟨M,L',H',_,O'',g4,qn,g6,g7⟩
theorem zi {o:Oper} {t e:TypeId} {s x:Operand} (ho:o.op=.call { callee:=.builtin .append,args:=#[s,x],argTypes:=#[t,t] }) (ht:P.underlying t=some (.slice e)) {esz bytes:Nat} {z:AV} (hz:cw P e=some (esz,z)) (hb:xc P e=some bytes) (rN:0 < bytes) (BC:xd z=true)
 {i j:IX} (hi:aW s=some i) (hj:aW x=some j) (hf:Fr A n M L w H env O a) (hd:∀ d,o.dst=some d→d < n)
 (hp:∀ l,lo=some l→∀ id,l≤id→A.top id=none) (h:bD ⟨P,lo⟩ (.km esz bytes z i j) o.dst env H K):o.wpIn (wf ro) 0 P a w (ow A n M L w K) Q:=by
 simp only [bD] at h
 split at h <;> try exact h.elim
 rename_i l
 have vW:=hf.eval hi
 have XZ:=hf.eval hj
 unfold cw at hz
 split at hz <;> try cases hz
 rename_i esz' z' OO ni
 split at hz <;> cases hz
 rename_i hcond
 obtain ⟨h0,gS,qv⟩:=hcond
 obtain ⟨inf,iK,de⟩:=zW.1 OO
 obtain ⟨inf',oX,rM⟩:=zW.1 hb
 rw [iK] at oX;cases oX
 unfold gb at ni
 simp only [iK] at ni
 split at ni <;> try cases ni
 rename_i zv tH
 have Ds:∀ y∈z.cells,∀ own xs,y=.aj own xs→own=0:=by
  intro y hy own xs e
  have:=aaO.1 BC y hy
  subst e
  simpa using this
 obtain ⟨r,y,L',w',H',O',g1,g2,g3,g4,g5,g6,g7⟩:=BA (P:=P) (ty:=o.type) (hp l rfl) hf.st ht iK tH de rM h0 rN ni qv gS Ds h vW XZ
 have bL:(execOp a.eval o).run P w=.ok (.value r) w':=by
  simp only [execOp,ho,resolve,invoke,builtin,Sem.run_bind,Sem.run_pure,Result.andThen_ok,ac9,List.map_cons,List.map_nil,g1]
 have FO:Fr A n M L' w' H' env O' a:=⟨g5,hf.size,hf.defers.ext g6⟩
 obtain ⟨O'',qn⟩:=FO.oK hd g2 g3
 exact df bL ⟨M,L',H',_,O'',g4,qn,g6,g7⟩
theorem H7:∀ {xs ys:List AV},ze xs ys→xs.length=ys.length∧∀ t,(xs.getD t .any).le (ys.getD t .any)
 | [],[],_=>⟨rfl,fun t=>.inl rfl⟩
 | [],_::_,h=>h.elim
 | _::_,[],h=>h.elim
 | x::xs,y::ys,h=>by
   obtain ⟨h1,h2⟩:=h
   obtain ⟨i1,i2⟩:=H7 h2
   refine ⟨by simp [i1],fun t=>?_⟩
   cases t with
   | zero=>simpa using h1
   | succ t=>simpa using i2 t
theorem dQ (env:Env) (pass:Option Nat):∀ (j:Nat) (xs:List IX),(aL env pass j xs).length=xs.length
 | _,[]=>rfl
 | j,.t s::xs=>by simp [aL,dQ env pass (j + 1) xs]
 | j,.c v::xs=>by simp [aL,dQ env pass (j + 1) xs]
theorem kr (hf:Fr A n M L w H env O a) (pass:Option Nat):∀ {xs:List Operand} {is:List IX} (j:Nat),gn xs=some is→aN M L (xs.map a.eval) (aL env pass j is)
 | [],is,j,hc=>by simp [gn] at hc;subst hc;exact .nil
 | x::xs,is,j,hc=>by
   unfold gn at hc
   split at hc
   ·rename_i i is' h1 h2
    cases hc
    have hr:=hf.eval h1
    cases i with
    | t s=>
      refine .cons _ _ _ _ ?_ (kr hf pass (j + 1) h2)
      split
      ·exact hr
      ·exact hr.ab
    | c v=>exact .cons _ _ _ _ hr.ab (kr hf pass (j + 1) h2)
   ·cases hc
def dJ (A:Perm) (loose:Bool) (H:List aa) (L:List Nat) (O:Pos→Option Nat) (w:World):Perm where
 wr:=fun b=>b∈L∨(∃ p,O p=some b)∨w.heap.size≤b
 top:=fun id=>if id < H.length then some (A.jb H.length id) else if loose=true then none else some (id + 1)
 ok:=by
  intro id n h
  split at h
  ·rename_i h1
   cases h
   have:=A.lN h1
   omega
  ·split at h
   ·cases h
   ·cases h;omega
theorem lU (A:Perm) (loose:Bool) (H:List aa) (L:List Nat) (O:Pos→Option Nat) (w:World):(dJ A loose H L O w).entry loose H.length:=
 ⟨fun id h=>⟨A.jb H.length id,A.wR _ _,by simp only [dJ,if_pos h]⟩,fun id h=>by simp only [dJ];rw [if_neg (by omega)]⟩
theorem uY (A:Perm) (loose:Bool) (H:List aa) (L:List Nat) (O:Pos→Option Nat) (w:World) {id:Nat} (h:id < H.length) (len:Nat):(dJ A loose H L O w).jb len id=min (A.jb H.length id) len:=by
 unfold Perm.jb
 simp only [dJ,if_pos h]
 rfl
theorem St.narrow {ev:Nat→Value} {ea:Nat→AV} (loose:Bool) (h:St A M L w H ev ea O):St (dJ A loose H L O w) M L w H ev ea O:=
 { len:=h.len,nodup:=h.nodup,env:=h.env,mem:=h.mem,obj:=h.obj,lt:=h.lt,je:=h.je,jc:=h.jc,cq:=h.cq,cC:=h.cC,fP:=h.fP,
   bG:=fun id o ho=>by
    rw [uY A loose H L O w (aQ ho),Nat.min_eq_left (A.wR _ _)]
    exact h.bG id o ho
   La:=fun b hb=>.inl hb,Oa:=fun p b hp=>.inr (.inl ⟨p,hp⟩),fresh:=fun b hb=>.inr (.inr hb) }
theorem St.rY {ev:Nat→Value} {ea:Nat→AV} (h:St A M L w H ev ea O) (ev':Nat→Value) (ea':Nat→AV) (hr:∀ t,aZ M L (ev' t) (ea' t)) (hx:∀ t own xs,ea' t=.aj own xs→own=0) :
 St A M L w H ev' ea' (fun p=>match p with | .t _=>none | .c id j=>O (.c id j)):=by
 have hO:∀ (p:Pos) (b:Nat),(match p with | .t _=>none | .c id j=>O (.c id j))=some b→O p=some b:=by
  intro p b hp
  cases p with
  | t t=>cases hp
  | c id j=>exact hp
 exact { len:=h.len,nodup:=h.nodup,env:=hr,mem:=h.mem,obj:=h.obj,bG:=h.bG,lt:=h.lt,je:=fun t=>bj.free (hx t),jc:=h.jc,cq:=fun p q b hp hq=>h.cq p q b (hO p b hp) (hO q b hq),
         cC:=fun p b hp=>h.cC p b (hO p b hp),fP:=fun p b hp=>h.fP p b (hO p b hp),La:=h.La,Oa:=fun p b hp=>h.Oa p b (hO p b hp),fresh:=h.fresh }
theorem St.JA {ev:Nat→Value} {ea:Nat→AV} (h:St A M L w H ev ea O) {Oc:Pos→Option Nat} (pt:Option Nat) (loose:Bool) (vQ:loose=true→∀ id,H.length≤id→A.top id=none) (hOc:∀ b,(∃ p,Oc p=some b)→(∃ id j,O (.c id j)=some b)∨∃ s,pt=some s∧O (.t s)=some b)
 {M':Mem} {L':List Nat} {w':World} {H':List aa} {v:Value} {r:AV} {O':Pos→Option Nat}
 (h':St (dJ A loose H L Oc w) M' L' w' H' (fZ (fun _=>undef) 0 v) (fZ (fun _=>.any) 0 r) O') (cJ:Ext (dJ A loose H L Oc w) M w M' w') (hL:L <+: L') :
 ∃ O'',St A M' L' w' H' ev (lQ ea pt) O''∧Ext A M w M' w'∧aZ M' L' v r∧bj M' w' v r (O' (.t 0))∧(∀ q b,O' (.t 0)=some b→O'' q≠some b)∧(∀ b,O' (.t 0)=some b→b∉L'∧b < w'.heap.size∧A b):=by
 have hlen:H.length≤H'.length:=by
  have:=hL.length_le
  rw [h.len,h'.len] at this
  exact this
 have hAc:∀ b,dJ A loose H L Oc w b→A b:=by
  rintro b (hb | hb | hb)
  ·exact h.La b hb
  ·rcases hOc b hb with ⟨id,j,hq⟩ | ⟨s,_,hq⟩
   ·exact h.Oa _ b hq
   ·exact h.Oa _ b hq
  ·exact h.fresh b hb
 let O'':Pos→Option Nat:=fun p=>match p with
  | .t i=>if pt=some i then none else O (.t i)
  | .c id j=>O' (.c id j)
 -- what the caller keeps is not the callee's to write
 have kH:∀ i b,pt≠some i→O (.t i)=some b→¬ dJ A loose H L Oc w b:=by
  rintro i b hi hb (hc | hc | hc)
  ·exact h.cC _ b hb hc
  ·rcases hOc b hc with ⟨id,j,hq⟩ | ⟨s,hs,hq⟩
   ·have:=h.cq _ _ b hb hq;cases this
   ·have:=h.cq _ _ b hb hq;cases this;exact hi hs
  ·have:=h.fP _ b hb;omega
 have JB:∀ i b,O'' (.t i)=some b→pt≠some i∧O (.t i)=some b:=by
  intro i b hb
  simp only [O''] at hb
  split at hb
  ·cases hb
  ·rename_i hi;exact ⟨hi,hb⟩
 have Ua:∀ i b p,O'' (.t i)=some b→O' p≠some b:=by
  intro i b p hb hp
  obtain ⟨h1,h2⟩:=JB i b hb
  exact kH i b h1 h2 (h'.Oa p b hp)
 refine ⟨O'',{ len:=h'.len,nodup:=h'.nodup,env:=?_,mem:=h'.mem,obj:=h'.obj,bG:=?_,lt:=h'.lt,je:=?_,jc:=h'.jc,cq:=?_,cC:=?_,fP:=?_,La:=fun b hb=>hAc b (h'.La b hb),Oa:=?_,fresh:=fun b hb=>h.fresh b (acv cJ.size hb) },?_,?_,?_,?_,?_⟩
 ·intro t
  have:=(h.env t).mono cJ.mh hL
  cases pt with
  | none=>exact this
  | some d=>
    simp only [lQ,fZ]
    split
    ·rename_i e0;subst e0;exact this.ab
    ·exact this
 ·intro id o ho
  have h1:=h'.bG id o ho
  have hl:=aQ ho
  by_cases e:id < H.length
  ·rw [uY A loose H L Oc w e] at h1
   exact aa.cH (acv (afr _ _) (A.De hlen id)) o h1
  ·by_cases hx:loose=true
   ·have e1:A.jb H'.length id=H'.length:=by unfold Perm.jb;rw [vQ hx id (by omega)]
    rw [e1]
    exact aa.cH (Perm.wR _ _ _) o h1
   ·have e1:(dJ A loose H L Oc w).jb H'.length id=min (id + 1) H'.length:=by
     unfold Perm.jb
     simp only [dJ,if_neg e,if_neg hx]
    rw [e1] at h1
    exact aa.cH (acv (afr _ _) (A.lN hl)) o h1
 ·intro t
  have h1:=h.je t
  cases pt with
  | none=>
    exact h1.mono fun b hb=>cJ.kH b (h.fP _ b hb) (kH t b (by simp) hb)
  | some d=>
    simp only [lQ,fZ,O'']
    by_cases e0:t=d
    ·subst e0
     simp only [if_true]
     exact bj.free (AV.bQ _)
    ·have:¬ (some d=some t):=fun e=>e0 (by cases e;rfl)
     simp only [e0,this,if_false]
     exact h1.mono fun b hb=>cJ.kH b (h.fP _ b hb) (kH t b this hb)
 ·intro p q b hp hq
  cases p with
  | t i=>
    cases q with
    | t j=>exact h.cq _ _ b (JB i b hp).2 (JB j b hq).2
    | c id j=>exact absurd hq (Ua i b _ hp)
  | c id j=>
    cases q with
    | t i=>exact absurd hp (Ua i b _ hq)
    | c id' j'=>exact h'.cq _ _ b hp hq
 ·intro p b hp hm
  cases p with
  | t i=>exact kH i b (JB i b hp).1 (JB i b hp).2 (h'.La b hm)
  | c id j=>exact h'.cC _ b hp hm
 ·intro p b hp
  cases p with
  | t i=>exact adO (h.fP _ b (JB i b hp).2) cJ.size
  | c id j=>exact h'.fP _ b hp
 ·intro p b hp
  cases p with
  | t i=>exact h.Oa _ b (JB i b hp).2
  | c id j=>exact hAc b (h'.Oa _ b hp)
 ·exact ⟨cJ.mh,cJ.size,cJ.os,cJ.tape,cJ.output,fun b hb hA=>cJ.kH b hb (fun hc=>hA (hAc b hc)),cJ.loops⟩
 ·simpa [fZ] using h'.env 0
 ·simpa [fZ] using h'.je 0
 ·intro q b hb hq
  cases q with
  | t i=>exact Ua i b _ hq hb
  | c id j=>have:=h'.cq _ _ b hb hq;cases this
 ·intro b hb
  exact ⟨h'.cC _ b hb,h'.fP _ b hb,hAc b (h'.Oa _ b hb)⟩
theorem gC (env:Env):∀ (xs:List IX) (j t:Nat),(aL env none j xs).getD t .any=(match xs[t]? with | some x=>(au env x).ab | none=>.any)
 | [],j,t=>by simp [aL]
 | .t s::xs,j,0=>by simp [aL,au]
 | .c v::xs,j,0=>by simp [aL,au]
 | .t s::xs,j,t + 1=>by
   simp only [aL,List.getD_cons_succ,List.getElem?_cons_succ]
   exact gC env xs (j + 1) t
 | .c v::xs,j,t + 1=>by
   simp only [aL,List.getD_cons_succ,List.getElem?_cons_succ]
   exact gC env xs (j + 1) t
theorem gD (env:Env) (k:Nat):∀ (xs:List IX) (j t:Nat),(aL env (some k) j xs).getD t .any=(match xs[t]? with | some (.t s)=>if k=j + t then get env s else (get env s).ab | some (.c v)=>v.ab | none=>.any)
 | [],j,t=>by simp [aL]
 | .t s::xs,j,0=>by simp [aL]
 | .c v::xs,j,0=>by simp [aL]
 | .t s::xs,j,t + 1=>by
   simp only [aL,List.getD_cons_succ,List.getElem?_cons_succ]
   rw [gD env k xs (j + 1) t,show j + 1 + t=j + (t + 1) by omega]
 | .c v::xs,j,t + 1=>by
   simp only [aL,List.getD_cons_succ,List.getElem?_cons_succ]
   rw [gD env k xs (j + 1) t,show j + 1 + t=j + (t + 1) by omega]
theorem rZ (vs:List Value) (t:Nat):vs.toArray.getD t undef=vs.getD t undef:=by
 simp [tu]
theorem ms (xs ys zs:List AV) (t:Nat):(xs++ys++zs).getD t .any=if t < xs.length then xs.getD t .any else if t < xs.length + ys.length then ys.getD (t - xs.length) .any else zs.getD (t - xs.length - ys.length) .any:=by
 simp only [tu,ae4,aaj]
 by_cases h1:t < xs.length
 ·rw [if_pos (by omega),if_pos h1,if_pos h1]
 ·by_cases h2:t < xs.length + ys.length
  ·rw [if_pos h2,if_neg h1,if_neg h1,if_pos h2]
  ·rw [if_neg h2,if_neg h1,if_neg h2,Nat.sub_sub]
theorem tL {o:Oper} {xs:List Operand} {js:List IX} (Xn:gn xs=some js) {pass:Option Nat} {fs cs:List Value} {first cap:List AV} (BD:aN M L fs first) (tJ:aN M L cs cap) {bX:List AV}
 (hle:ze (first.map AV.ab++aL env pass 0 js++cap.map AV.ab) bX) (hf:Fr A n M L w H env O a) (hd:∀ d,o.dst=some d→d < n) {loose:Bool} (vQ:loose=true→∀ id,H.length≤id→A.top id=none) :
 ∃ Oc,(fs++xs.map a.eval++cs).length=bX.length∧St (dJ A loose H L Oc w) M L w H (fun t=>(fs++xs.map a.eval++cs).toArray.getD t undef) (fun t=>bX.getD t .any) Oc∧
  ∀ (v:Value) (r:AV) (H':List aa) (M':Mem) (L':List Nat) (O':Pos→Option Nat) (w':World),K (put o.dst r (cL env (bh js pass))) H'→St (dJ A loose H L Oc w) M' L' w' H' (fZ (fun _=>undef) 0 v) (fZ (fun _=>.any) 0 r) O'→Ext (dJ A loose H L Oc w) M w M' w'→L <+: L'→
   ow A n M L w K (a.put o.dst v) w':=by
 have hrb:=kr hf pass 0 Xn
 have ac5:=kr hf none 0 Xn
 obtain ⟨hlen,ac6⟩:=H7 hle
 obtain ⟨vs,wY⟩:∃ vs:List Value,vs=fs++xs.map a.eval++cs:=⟨_,rfl⟩
 have hrv:aN M L vs (first.map AV.ab++aL env pass 0 js++cap.map AV.ab):=by rw [wY];exact (BD.dj.append hrb).append tJ.dj
 have ac7:aN M L vs (first.map AV.ab++aL env none 0 js++cap.map AV.ab):=by rw [wY];exact (BD.dj.append ac5).append tJ.dj
 have rL:vs.length=bX.length:=by rw [hrv.length];exact hlen
 -- the callee's state
 have ac8:∃ Oc,St A M L w H (fun t=>vs.toArray.getD t undef) (fun t=>bX.getD t .any) Oc∧(∀ b,(∃ p,Oc p=some b)→(∃ id j,O (.c id j)=some b)∨∃ s,bh js pass=some s∧O (.t s)=some b):=by
  have hfree:∀ t own zs,(first.map AV.ab++aL env none 0 js++cap.map AV.ab).getD t .any=.aj own zs→own=0:=by
   intro t own zs he
   have hm:∀ (l:List AV) q,(l.map AV.ab).getD q .any=.aj own zs→own=0:=by
    intro l q hq
    rw [tu,acu] at hq
    cases hx:l[q]? with
    | none=>simp [hx] at hq
    | some y=>simp [hx] at hq;exact AV.bQ y own zs hq
   rw [ms] at he
   split at he
   ·exact hm _ _ he
   ·split at he
    ·rw [gC] at he
     split at he
     ·exact AV.bQ _ own zs he
     ·cases he
    ·exact hm _ _ he
  have h0:=hf.st.rY (fun t=>vs.toArray.getD t undef) (fun t=>(first.map AV.ab++aL env none 0 js++cap.map AV.ab).getD t .any) (fun t=>by rw [rZ];exact ac7.getD t) hfree
  -- then the one that is handed over
  have h1:∃ O1,St A M L w H (fun t=>vs.toArray.getD t undef) (fun t=>(first.map AV.ab++aL env pass 0 js++cap.map AV.ab).getD t .any) O1∧(∀ b,(∃ p,O1 p=some b)→(∃ id j,O (.c id j)=some b)∨∃ s,bh js pass=some s∧O (.t s)=some b):=by
   cases qB:bh js pass with
   | none=>
     refine ⟨_,h0.congr (fun _=>rfl) (fun t=>?_),?_⟩
     ·rw [ms,ms,dQ,dQ]
      split
      ·rfl
      ·split
       ·cases pass with
        | none=>rfl
        | some k=>
          rw [gC,gD]
          unfold bh at qB
          simp only at qB
          cases hx:js[t - (first.map AV.ab).length]? with
          | none=>rfl
          | some x=>
            cases x with
            | c v=>rfl
            | t s=>
              simp only
              rw [if_neg]
              ·rfl
              ·intro e
               rw [ach] at e
               rw [e,hx] at qB
               simp at qB
       ·rfl
     ·rintro b ⟨p,hp⟩
      cases p with
      | t t=>cases hp
      | c id j=>exact .inl ⟨id,j,hp⟩
   | some s=>
     -- where it stands
     obtain ⟨k,rfl,SK⟩:∃ k,pass=some k∧js[k]?=some (.t s):=by
      unfold bh at qB
      split at qB
      ·rename_i k
       split at qB
       ·rename_i s' Ub;cases qB;exact ⟨k,rfl,Ub⟩
       ·cases qB
      ·cases qB
     have C8:k < js.length:=aQ SK
     have hargs:∀ (xs:List Operand) (is:List IX),gn xs=some is→∀ (q s:Nat),is[q]?=some (IX.t s)→xs[q]?=some (Operand.tmp s):=by
      intro xs
      induction xs with
      | nil=>intro is hc q s hq;simp [gn] at hc;subst hc;simp at hq
      | cons x xs ih=>
        intro is hc q s hq
        unfold gn at hc
        split at hc
        ·rename_i i is' e1 e2
         cases hc
         cases q with
         | zero=>
           simp at hq;subst hq
           cases x with
           | tmp t=>simp [aW] at e1;simp [e1]
           | const v=>simp only [aW] at e1;obtain ⟨_,_,hz⟩:=zW.1 e1;cases hz
           | func f=>simp [aW] at e1
           | global g=>simp [aW] at e1
         | succ q=>simpa using ih is' e2 q s (by simpa using hq)
        ·cases hc
     have cW:=hargs _ _ Xn k s SK
     have ox:vs[first.length + k]?=some (a.tmps.getD s undef):=by
      have Pq:fs.length=first.length:=BD.length
      rw [wY]
      rw [aa6,aba (by omega),Pq,show first.length + k - first.length=k by omega,zR (by simpa using aQ cW),acu,cW]
      rfl
     have oU:=h0.put (first.length + k) (v:=a.tmps.getD s undef) (x:=get env s) (hf.st.env s) (O (.t s)) (hf.st.je s) (fun p b hb hp=>by
      cases p with
      | t t=>cases hp
      | c id j=>have:=hf.st.cq _ _ b hb hp;cases this) (fun b hb=>⟨hf.st.cC _ b hb,hf.st.fP _ b hb,hf.st.Oa _ b hb⟩)
     refine ⟨_,oU.congr (fun t=>?_) (fun t=>?_),?_⟩
     ·simp only [fZ]
      split
      ·rename_i e;subst e
       rw [rZ,tu,ox];rfl
      ·rfl
     ·simp only [fZ]
      rw [ms,ms,dQ,dQ]
      simp only [acL]
      by_cases e:t=first.length + k
      ·subst e
       rw [if_pos rfl,if_neg (by omega),if_pos (by omega),show first.length + k - first.length=k by omega,gD,SK]
       simp
      ·rw [if_neg e]
       split
       ·rfl
       ·split
        ·rw [gC,gD]
         cases hx:js[t - first.length]? with
         | none=>rfl
         | some x=>
           cases x with
           | c v=>rfl
           | t s=>
             simp only
             rw [if_neg (by omega)]
             rfl
        ·rfl
     ·rintro b ⟨p,hp⟩
      simp only [eT] at hp
      split at hp
      ·exact .inr ⟨s,rfl,hp⟩
      ·cases p with
       | t t=>cases hp
       | c id j=>exact .inl ⟨id,j,hp⟩
  obtain ⟨O1,g1,g2⟩:=h1
  obtain ⟨O2,g3,g4⟩:=g1.HW (ea':=fun t=>bX.getD t .any) ac6
  exact ⟨O2,g3,fun b ⟨p,hp⟩=>g2 b ⟨p,g4 p b hp⟩⟩
 obtain ⟨Oc,bV,hOc⟩:=ac8
 refine ⟨Oc,by rw [← wY];exact rL,by rw [← wY];exact bV.narrow loose,?_⟩
 intro v r H' M' L' O' w' hK nj cJ hL
 obtain ⟨O'',k1,k2,k3,k4,k5,k6⟩:=hf.st.JA (bh js pass) loose vQ hOc nj cJ hL
 have FW:lQ (get env) (bh js pass)=get (cL env (bh js pass)):=by
  cases bh js pass <;> rfl
 rw [FW] at k1
 have qn:Fr A n M' L' w' H' (cL env (bh js pass)) O'' a:=⟨k1,hf.size,hf.defers.ext k2⟩
 show ow A n M L w K (a.put o.dst v) w'
 cases gV:o.dst with
 | none=>rw [gV] at hK;exact ⟨M',L',H',_,O'',hK,qn,k2,hL⟩
 | some d=>
   rw [gV] at hK
   exact ⟨M',L',H',_,_,hK,qn.FX (hd d gV) k3 (O' (.t 0)) k4 (fun q b hb hq=>absurd hq (k5 q b hb)) k6,k2,hL⟩
theorem Gf {o:Oper} {c:Call} (ho:o.op=.call c) {f:Operand} (oz:c.callee=.value f) {i:IX} {js:List IX} (H8:aW f=some i) (Xn:gn c.args.toList=some js) {pass:Option Nat}
 (hp:∀ l,lo=some l→∀ id,l≤id→A.top id=none) (hf:Fr A n M L w H env O a) (hd:∀ d,o.dst=some d→d < n) (h:bD ⟨P,lo⟩ (.call i js pass) o.dst env H K):o.wpIn (wf ro) 0 P a w (ow A n M L w K) Q:=by
 simp only [bD] at h
 have OP:=hf.eval H8
 unfold qz at h
 split at h <;> try exact h.elim
 ·rename_i g first cap X0
  obtain ⟨bX,hle,hcall⟩:=h
  rw [X0] at OP
  generalize hu:a.eval f=u at OP
  cases OP with
  | fn _ fs cs _ _ BD tJ=>
  obtain ⟨loose,vQ,hcall⟩:∃ loose:Bool,(loose=true→∀ id,H.length≤id→A.top id=none)∧lT loose P g bX H fun r H'=>K (put o.dst r (cL env (bh js pass))) H':=by
   unfold dG at hcall
   split at hcall
   ·exact ⟨false,by simp,hcall⟩
   ·rename_i l hl
    rcases hcall with hcall | ⟨h1,hcall⟩
    ·exact ⟨false,by simp,hcall⟩
    ·exact ⟨true,fun _ id bn=>hp l hl id (by omega),hcall⟩
  obtain ⟨Oc,rL,bV,fin⟩:=tL (K:=K) (o:=o) Xn BD tJ hle hf hd vQ
  obtain ⟨vs,wY⟩:∃ vs:List Value,vs=fs++c.args.toList.map a.eval++cs:=⟨_,rfl⟩
  rw [← wY] at rL bV
  have bL:(execOp a.eval o).run P w=(callFunc g vs.toArray).run P w:=by
   simp only [execOp,ho,resolve,oz,Deferred.ofValue,hu,invoke,Sem.run_bind,Sem.run_pure,Result.andThen_ok]
   have e1:(fs.toArray++c.args.map a.eval++cs.toArray)=vs.toArray:=by
    apply Array.ext';simp [wY]
   rw [e1]
  rcases hcall (dJ A loose H L Oc w) M L w vs.toArray Oc (lU A loose H L Oc w) (by simpa using rL) bV with ⟨h1,hc⟩ | ⟨v,w',r,H',M',L',O',h1,hK,nj,cJ,hL⟩
  ·refine mi (bL.trans h1) (by intro d e;cases e) ⟨(fun h=>by cases h),?_⟩
   have ni:CallsIn (wf ro) (0 - 1) P g vs.toArray w _:=callsIn_wide.2 hc
   refine CallsIn.mono ni fun e w' he=>?_
   obtain ⟨v,r,H',M',L',O',rfl,hK,nj,cJ,hL⟩:=he
   exact fin v r H' M' L' O' w' hK nj cJ hL
  ·exact df (bL.trans h1) (fin v r H' M' L' O' w' hK nj cJ hL)
 ·rename_i id X0
  obtain ⟨bX,hle,hcall⟩:=h
  rw [X0] at OP
  generalize hu:a.eval f=u at OP
  cases OP with
  | oJ b _ hl=>
  obtain ⟨loose,vQ,hcall⟩:∃ loose:Bool,(loose=true→∀ id,H.length≤id→A.top id=none)∧fW loose P id bX H fun r H'=>K (put o.dst r (cL env (bh js pass))) H':=by
   unfold nr at hcall
   split at hcall
   ·exact ⟨false,by simp,hcall⟩
   ·rename_i l hl
    rcases hcall with hcall | ⟨h1,hcall⟩
    ·exact ⟨false,by simp,hcall⟩
    ·exact ⟨true,fun _ id bn=>hp l hl id (by omega),hcall⟩
  obtain ⟨Oc,rL,bV,fin⟩:=tL (K:=K) (o:=o) (fs:=[]) (cs:=[]) (first:=[]) (cap:=[]) Xn .nil .nil (by simpa using hle) hf hd vQ
  simp only [List.nil_append,ack] at rL bV
  obtain ⟨fn,tmps,as,bd,h1,h2⟩:=hcall (dJ A loose H L Oc w) M L w (c.args.toList.map a.eval).toArray Oc b (lU A loose H L Oc w) (by simpa using rL) hl bV
  have bL:(execOp a.eval o).run P w=.ok (.round b fn tmps as bd) w:=by
   simp only [execOp,ho,resolve,oz,Deferred.ofValue,hu,invoke,Sem.run_bind,Sem.run_pure,Result.andThen_ok]
   have e1:(#[]++c.args.map a.eval:Array Value)=(c.args.toList.map a.eval).toArray:=by
    apply Array.ext';simp
   rw [e1]
   exact h1
  refine mi bL (by intro d e;cases e) ⟨(fun h=>by cases h),?_⟩
  have ni:RoundIn (wf ro) (0 - 1) P b fn tmps as bd w _:=h2
  refine RoundIn.mono ni fun e w' he=>?_
  obtain ⟨v,r,H',M',L',O',rfl,hK,nj,cJ,hL⟩:=he
  exact fin v r H' M' L' O' w' hK nj cJ hL
end
end Go.aI
end
section
namespace Go.aI
open Go
section
variable {ro:Option Nat} {P:Program} {lo:Option Nat} {A:Perm} {n:Nat} {M:Mem} {L:List Nat} {w:World} {H:List aa} {env:Env} {O:Pos→Option Nat} {a:Act} {Q:Exit→Act→World→Prop} {K:Env→List aa→Prop}
theorem pJ {x:AV} {φ:Bool→Prop} (h:fA x φ):∃ b,x=.bool b∧φ b:=by
 unfold fA at h
 split at h
 ·exact ⟨_,rfl,h⟩
 ·exact h.elim
def jf (kd:Nat):Value:=match kd with | 0=>.slice none 0 0 | 1=>.pointer none | 2=>.map none | _=>.nilFunc
def sc (kd:Nat) (D:TypeDesc):Bool:=match kd,D with | 0,.slice _=>true | 1,.pointer _=>true | 2,.map _ _=>true | 3,.func _ _ _=>true | _,_=>false
theorem vX {d kd:Nat} {t:TypeId} {D:TypeDesc} (ht:P.underlying t=some D) (hD:sc kd D=true) {u:Value} {x:AV} {b:Bool} (hx:isNil kd x=some b) (hu:aZ M L u x):(Op.equalIn (d + 1) t u (jf kd)).run P w=.ok b w:=by
 unfold isNil at hx
 split at hx <;> cases hx <;> cases D <;> simp [sc] at hD <;> cases hu <;> simp [Op.equalIn,run_underlying ht,jf]
theorem xg {kd:Nat} {neq:Bool} {t:TypeId} {D:TypeDesc} (ht:P.underlying t=some D) (hD:sc kd D=true) {u:Value} {x:AV} {φ:AV→Prop} (h:dx kd neq x φ) (hu:aZ M L u x) (X Y:Operand) :
 ∃ r z,(do eqGuard (if neq then .neq else .eql) t X Y u (jf kd);binOp (if neq then .neq else .eql) t u (jf kd):Sem Value).run P w=.ok r w∧aZ M L r z∧φ z∧∀ own xs,z=.aj own xs→own=0:=by
 unfold dx at h
 split at h
 rotate_left
 ·split at h <;> try exact h.elim
  cases hu with
  | aj b off c own e cs xs he hx hn hle hc hr hm=>simp at hn
  | iG ad c own hc=>
    have hDs:∃ e,D=.slice e:=by
     cases D <;> simp [sc] at hD
     exact ⟨_,rfl⟩
    obtain ⟨e,rfl⟩:=hDs
    have he0:∀ d,(Op.equalIn (d + 1) t (.slice ad 0 c) (jf 0)).run P w=.ok (ad.isNone) w:=by
     intro d
     cases ad <;> simp [Op.equalIn,run_underlying ht,jf]
    have he:(Op.equal t (.slice ad 0 c) (jf 0)).run P w=.ok (ad.isNone) w:=he0 9999
    have hg:∀ op,(eqGuard op t X Y (.slice ad 0 c) (jf 0)).run P w=.ok () w:=by
     intro op
     unfold eqGuard;cases op <;> rfl
    have h1:binOp .eql t (.slice ad 0 c) (jf 0)=(Op.equal t (.slice ad 0 c) (jf 0) >>= fun q=>(pure (.bool q):Sem Value)):=rfl
    have h2:binOp .neq t (.slice ad 0 c) (jf 0)=(Op.equal t (.slice ad 0 c) (jf 0) >>= fun q=>(pure (.bool (!q)):Sem Value)):=rfl
    have hφ:∀ b,φ (.bool b):=fun b=>by cases b;exact h.2;exact h.1
    cases neq
    ·refine ⟨.bool ad.isNone,.bool ad.isNone,?_,.bool _,hφ _,by intro _ _ e;cases e⟩
     simp only [acg,if_false,Sem.run_bind,hg,Result.andThen_ok,h1,he,Sem.run_pure]
    ·refine ⟨.bool (!ad.isNone),.bool (!ad.isNone),?_,.bool _,hφ _,by intro _ _ e;cases e⟩
     simp only [if_true,Sem.run_bind,hg,Result.andThen_ok,h2,he,Sem.run_pure]
 rename_i b hb
 have he:(Op.equal t u (jf kd)).run P w=.ok b w:=vX (d:=9999) ht hD hb hu
 have hg:∀ op,(eqGuard op t X Y u (jf kd)).run P w=.ok () w:=by
  intro op
  unfold isNil at hb
  split at hb <;> cases hb <;> cases hu <;> (unfold eqGuard;cases op <;> rfl)
 have h1:binOp .eql t u (jf kd)=(Op.equal t u (jf kd) >>= fun q=>(pure (.bool q):Sem Value)):=by
  unfold isNil at hb
  split at hb <;> cases hb <;> cases hu <;> rfl
 have h2:binOp .neq t u (jf kd)=(Op.equal t u (jf kd) >>= fun q=>(pure (.bool (!q)):Sem Value)):=by
  unfold isNil at hb
  split at hb <;> cases hb <;> cases hu <;> rfl
 cases neq
 ·refine ⟨.bool b,.bool b,?_,.bool _,h,by intro _ _ e;cases e⟩
  simp only [acg,if_false,Sem.run_bind,hg,Result.andThen_ok,h1,he,Sem.run_pure]
 ·refine ⟨.bool (!b),.bool (!b),?_,.bool _,h,by intro _ _ e;cases e⟩
  simp only [if_true,Sem.run_bind,hg,Result.andThen_ok,h2,he,Sem.run_pure]
theorem xh (hf:Fr A n M L w H env O a) {xs:List Operand} {is:List IX} (hc:gn xs=some is):aN M L (xs.map a.eval) (is.map fun x=>(au env x).ab):=by
 have:=(hf.SE hc).dj
 rwa [ac0] at this
theorem cz (hf:Fr A n M L w H env O a) {x:Option Operand} {i:Option IX} (hc:lz x=some i):jV M L (gU env i) (x.map a.eval):=by
 cases x with
 | none=>simp [lz] at hc;subst hc;trivial
 | some x=>
   simp only [lz] at hc
   obtain ⟨j,hj,rfl⟩:=zW.1 hc
   exact hf.eval hj
theorem H9 {e:TypeId} {esz:Nat} {z:AV} (h:cw P e=some (esz,z)):dY P e=some esz∧gb P e=some z∧0 < esz∧z.cells.length=esz∧z.val=true:=by
 unfold cw at h
 split at h <;> try cases h
 rename_i h1 h2
 split at h <;> cases h
 rename_i hc
 exact ⟨h1,h2,hc⟩
theorem JC {x:AV} (h:aO 0 x):jT .string x=true:=by
 cases x <;> first | rfl | exact (show False from h).elim
theorem DE {x:AV} (h:aO 1 x) (e:TypeId):jT (.slice e) x=true:=by
 cases x <;> first | rfl | exact (show False from h).elim
theorem JD {x:AV} (h:aO 2 x) (k e:TypeId):jT (.map k e) x=true:=by
 cases x <;> first | rfl | exact (show False from h).elim
theorem LJ (o:Oper) {fl:Nat} {i:ch} (hc:cE P o fl=some i) (hp:∀ l,lo=some l→∀ id,l≤id→A.top id=none) (hf:Fr A n M L w H env O a) (hd:∀ d,o.dst=some d→d < n) (hnone:(match o.op with | .store .. | .mapUpdate ..=>o.dst=none | _=>True))
 (h:bD ⟨P,lo⟩ i o.dst env H K):o.wpIn (wf ro) 0 P a w (ow A n M L w K) Q:=by
 cases cW:o.op with
 | move x=>
   simp only [cE,cW] at hc
   obtain ⟨j,hj,rfl⟩:=zW.1 hc
   exact z9 (.inl cW) hj hf hd h
 | assign x=>
   simp only [cE,cW] at hc
   obtain ⟨j,hj,rfl⟩:=zW.1 hc
   exact z9 (.inr cW) hj hf hd h
 | pick c x y=>
   simp only [cE,cW] at hc
   split at hc <;> cases hc
   rename_i c' x' y' h1 h2 h3
   simp only [bD] at h
   obtain ⟨b,hb,h⟩:=pJ h
   have hr:=hf.eval h1
   rw [hb] at hr
   generalize hu:a.eval c=u at hr
   cases hr
   cases b
   ·exact wp_pure hf hd (by simp [execOp,cW,hu,asBool]) (hf.eval h3).ab (AV.bQ _) (h.2 rfl)
   ·exact wp_pure hf hd (by simp [execOp,cW,hu,asBool]) (hf.eval h2).ab (AV.bQ _) (h.1 rfl)
 | alloc e=>
   simp only [cE,cW] at hc
   split at hc <;> try cases hc
   rename_i z hz
   split at hc <;> cases hc
   rename_i hv
   simp only [bD] at h
   obtain ⟨r,L',w',h1,h2,h3,h4,h5⟩:=F0 (P:=P) hf.st hz hv h.1
   exact pI hf hd (by simp only [execOp,cW];exact bc h1) h2 (by intro _ _ e;cases e) h3 h4 h5 h.2
 | box e x=>
   simp only [cE,cW] at hc
   obtain ⟨j,hj,hc⟩:=zW.1 hc
   split at hc <;> subst hc <;> simp only [bD] at h
   ·obtain ⟨r,M',w',h1,h2,h3,h4⟩:=Jr (P:=P) hf.st e (hf.eval hj) h.1
    exact pI hf hd (by simp only [execOp,cW];exact bc h1) h2 (by intro _ _ e;cases e) h3 h4 (aaG L) h.2
   ·obtain ⟨r,L',w',h1,h2,h3,h4,h5⟩:=Dj (P:=P) hf.st e (hf.eval hj) h.1 h.2.1
    exact pI hf hd (by simp only [execOp,cW];exact bc h1) h2 (by intro _ _ e;cases e) h3 h4 h5 h.2.2
 | build t ps=>
   simp only [cE,cW] at hc
   split at hc <;> try cases hc
   rename_i z places ht
   split at hc <;> try cases hc
   rename_i qs hq
   split at hc <;> cases hc
   rename_i hv
   simp only [bD] at h
   obtain ⟨r,x,h1,h2,h3,h4⟩:=F4 (P:=P) hf ht hq h hv
   exact wp_pure hf hd (by simp only [execOp,cW];exact bc h1) h2 h4 h3
 | buildSlice t len ps=>
   simp only [cE,cW] at hc
   split at hc <;> try cases hc
   rename_i e ht
   split at hc <;> try cases hc
   rename_i esz z qs hz hq
   split at hc <;> cases hc
   rename_i hlen
   obtain ⟨p1,p2,p3,p4,p5⟩:=H9 hz
   obtain ⟨q1,q2⟩:=n9 hf _ _ hq
   by_cases X1:fl=2
   ·rw [if_pos X1] at h
    simp only [bD] at h
    obtain ⟨r,x,L',w',H',h1,h2,h3,h4,h5,h6,h7⟩:=Jz (P:=P) hf.st ht p1 p3 p2 p4 p5 hlen (vs:=ps.map fun (i,x)=>(i,a.eval x)) (by
     intro j p hp
     obtain ⟨v,v1,v2⟩:=q1 j p hp
     exact ⟨v,by simpa using v1,v2⟩) (by simp [q2]) h
    exact pI hf hd (by simp only [execOp,cW];exact bc h1) h2 h3 h5 h6 h7 h4
   rw [if_neg X1] at h
   simp only [bD] at h
   obtain ⟨m,xs,M',w',ad,h1,h2,h3,h4,h5,h6⟩:=vP (P:=P) hf.st ht p1 p3 p2 p4 p5 (if fl=1 then esz else 0) hlen (vs:=ps.map fun (i,x)=>(i,a.eval x)) (by
    intro j p hp
    obtain ⟨v,v1,v2⟩:=q1 j p hp
    exact ⟨v,by simpa using v1,v2⟩) (by simp [q2]) h
   obtain ⟨O',qn⟩:=(hf.mono h5 h6).HY (dst:=o.dst) hd h2 (fun dP y hy=>by
    split at dP
    ·rename_i Pq;rw [if_pos Pq];exact h3 y hy
    ·exact absurd rfl dP)
   exact df (by simp only [execOp,cW];exact bc h1) ⟨M',L,H,_,O',h4,qn,h6,aaG L⟩
 | load t x=>
   simp only [cE,cW] at hc
   split at hc <;> try cases hc
   rename_i sz j ht hj
   split at hc
   ·split at hc <;> cases hc
    rename_i hs
    subst hs
    exact xf cW ht hj hf hd h
   split at hc
   ·cases hc
    simp only [bD] at h
    obtain ⟨r,z,h1,h2,h3,h4⟩:=tD (P:=P) ht hf.st h (hf.eval hj)
    obtain ⟨y,M',H',O',g1,g2,g3,g4,g5⟩:=tK hf.st h3 h2
    obtain ⟨O'',qn⟩:=(hf.mono g3 g4).oK (dst:=o.dst) hd g1 g5
    exact df (by simp only [execOp,cW];exact bc h1) ⟨M',L,H',_,O'',g2,qn,g4,aaG L⟩
   ·cases hc
    simp only [bD] at h
    obtain ⟨r,z,h1,h2,h3,h4⟩:=tD (P:=P) ht hf.st h (hf.eval hj)
    exact bU hf hd ⟨r,z,by simp only [execOp,cW];exact bc h1,h2,h3,h4⟩
 | store t x y=>
   simp only [cW] at hnone
   simp only [cE,cW] at hc
   split at hc <;> try cases hc
   rename_i m j k ht hj hk
   split at hc
   ·split at hc <;> try cases hc
    rename_i s
    split at hc <;> cases hc
    rename_i hm
    subst hm
    exact zg cW ht hj hk hf hnone h
   split at hc
   ·cases hc
    simp only [bD] at h
    obtain ⟨l,rfl⟩:∃ l,lo=some l:=by cases lo with | none=>exact h.elim | some l=>exact ⟨l,rfl⟩
    obtain ⟨w',H',O',h1,h2,h3,h4⟩:=Dn (P:=P) hf.st (hp l rfl) ht h (hf.eval hj) (hf.eval hk)
    refine m9 (by simp only [execOp,cW];exact rX h1) ⟨M,L,H',env,O',h2,?_,h4,aaG L⟩
    rw [hnone];exact ⟨h3,hf.size,hf.defers.ext h4⟩
   ·cases hc
    simp only [bD] at h
    obtain ⟨w',H',O',h1,h2,h3,h4⟩:=F5 (P:=P) hf.st ht h (hf.eval hj) (hf.eval hk)
    refine m9 (by simp only [execOp,cW];exact rX h1) ⟨M,L,H',env,O',h2,?_,h4,aaG L⟩
    rw [hnone];exact ⟨h3,hf.size,hf.defers.ext h4⟩
 | nilCheck x=>
   simp only [cE,cW] at hc
   obtain ⟨j,hj,rfl⟩:=zW.1 hc
   simp only [bD] at h
   exact bU hf hd (y9 cW h (hf.eval hj))
 | binOp op t x y yt=>
   simp only [cE,cW] at hc
   split at hc <;> try cases hc
   rename_i j k hj hk
   have hx:=hf.eval hj
   have hy:=hf.eval hk
   have plain:∀ {op},dl op (au env j) (au env k) (fun z=>K (put o.dst z env) H)→o.op=.binOp op t x y yt→o.wpIn (wf ro) 0 P a w (ow A n M L w K) Q:=by
    intro op h cW
    obtain ⟨r,z,h1,h2,h3,h4⟩:=Lq (P:=P) (w:=w) (t:=t) h hx hy x y
    exact bU hf hd ⟨r,z,by simp only [execOp,cW];exact bc h1,h2,h3,h4⟩
   split at hc
   ·cases hc
    simp only [bD] at h
    obtain ⟨r,z,h1,h2,h3,h4⟩:=wU (P:=P) (w:=w) (t:=t) h hx hy x y
    exact bU hf hd ⟨r,z,by simp only [execOp,cW];exact bc h1,h2,h3,h4⟩
   ·cases hc
    simp only [bD] at h
    obtain ⟨r,z,h1,h2,h3,h4⟩:=wU (P:=P) (w:=w) (t:=t) h hx hy x y
    exact bU hf hd ⟨r,z,by simp only [execOp,cW];exact bc h1,h2,h3,h4⟩
   ·split at hc <;> try cases hc
    ·rename_i ht
     simp only [bD] at h
     obtain ⟨r,z,h1,h2,h3,h4⟩:=uQ (P:=P) (w:=w) (neq:=false) ht h hx hy x y
     exact bU hf hd ⟨r,z,by simp only [execOp,cW];exact bc h1,h2,h3,h4⟩
    ·exact plain (op:=.eql) h cW
    ·exact plain (op:=.eql) h cW
    all_goals
     rename_i ht
     split at hc <;> cases hc
     simp only [bD] at h
     obtain ⟨r,z,h1,h2,h3,h4⟩:=xg (P:=P) (w:=w) (neq:=false) ht rfl h hx x (.const .nilFunc)
     exact bU hf hd ⟨r,z,by simp only [execOp,cW];exact bc h1,h2,h3,h4⟩
   ·split at hc <;> try cases hc
    ·rename_i ht
     simp only [bD] at h
     obtain ⟨r,z,h1,h2,h3,h4⟩:=uQ (P:=P) (w:=w) (neq:=true) ht h hx hy x y
     exact bU hf hd ⟨r,z,by simp only [execOp,cW];exact bc h1,h2,h3,h4⟩
    ·exact plain (op:=.neq) h cW
    ·exact plain (op:=.neq) h cW
    all_goals
     rename_i ht
     split at hc <;> cases hc
     simp only [bD] at h
     obtain ⟨r,z,h1,h2,h3,h4⟩:=xg (P:=P) (w:=w) (neq:=true) ht rfl h hx x (.const .nilFunc)
     exact bU hf hd ⟨r,z,by simp only [execOp,cW];exact bc h1,h2,h3,h4⟩
   ·cases hc;exact plain h cW
 | unOp op t x=>
   simp only [cE,cW] at hc
   obtain ⟨j,hj,rfl⟩:=zW.1 hc
   simp only [bD] at h
   obtain ⟨r,z,h1,h2,h3,h4⟩:=Pf (P:=P) (w:=w) h (hf.eval hj)
   exact bU hf hd ⟨r,z,by simp only [execOp,cW];exact bc h1,h2,h3,h4⟩
 | convert src dst x=>
   simp only [cE,cW] at hc
   split at hc <;> try cases hc
   ·rename_i k1 k2 j hs Uc hj
    simp only [bD] at h
    obtain ⟨r,z,h1,h2,h3,h4⟩:=Bm (P:=P) (w:=w) hs Uc h (hf.eval hj)
    exact bU hf hd ⟨r,z,by simp only [execOp,cW];exact bc h1,h2,h3,h4⟩
   ·rename_i j hs Uc hj
    simp only [bD] at h
    obtain ⟨r,z,h1,h2,h3,h4⟩:=Bs (P:=P) (w:=w) hs Uc h (hf.eval hj)
    exact bU hf hd ⟨r,z,by simp only [execOp,cW];exact bc h1,h2,h3,h4⟩
   ·rename_i e j hs Uc hj
    split at hc <;> cases hc
    rename_i he
    simp only [bD] at h
    obtain ⟨r,z,w',M',ob,h1,h2,h3,h4,h5,h6,h7,h8⟩:=Bt (P:=P) hf.st hs Uc he h (hf.eval hj)
    exact xe hf hd (by simp only [execOp,cW];exact bc h1) h2 h4 h5 h6 h7 h8 h3
   ·rename_i e j hs Uc hj
    split at hc <;> cases hc
    rename_i he
    simp only [bD] at h
    obtain ⟨r,z,h1,h2,h3,h4⟩:=F9 (P:=P) hf.st hs he Uc h (hf.eval hj)
    exact bU hf hd ⟨r,z,by simp only [execOp,cW];exact bc h1,h2,h3,h4⟩
 | makeFunc f first cap=>
   simp only [cE,cW] at hc
   split at hc <;> cases hc
   rename_i i j hi hj
   simp only [bD] at h
   refine bU hf hd ⟨.func f (first.map a.eval) (cap.map a.eval),_,?_,?_,h,by intro _ _ e;cases e⟩
   ·simp only [execOp,cW];rfl
   ·have:=aZ.fn (M:=M) (L:=L) f (first.toList.map a.eval) (cap.toList.map a.eval) _ _ (xh hf hi) (xh hf hj)
    rw [show (first.toList.map a.eval).toArray=first.map a.eval by apply Array.ext';simp,show (cap.toList.map a.eval).toArray=cap.map a.eval by apply Array.ext';simp] at this
    exact this
 | makeMap t r=>
   cases r with
   | some r=>simp [cE,cW] at hc
   | none=>
     simp only [cE,cW] at hc
     cases hc
     simp only [bD] at h
     obtain ⟨r,L',w',h1,h2,h3,h4,h5⟩:=Gc (P:=P) hf.st t
     exact pI hf hd (by simp only [execOp,cW];exact bc h1) h2 (by intro _ _ e;cases e) h3 h4 h5 h
 | makeSlice t l c=>
   simp only [cE,cW] at hc
   split at hc <;> try cases hc
   rename_i e k ht hk
   split at hc <;> try cases hc
   rename_i esz z bytes hz hb
   split at hc <;> try cases hc
   rename_i hcond
   obtain ⟨rN,BC⟩:=hcond
   obtain ⟨p1,p2,p3,p4,p5⟩:=H9 hz
   obtain ⟨inf,iK,de⟩:=zW.1 p1
   obtain ⟨inf',oX,rM⟩:=zW.1 hb
   rw [iK] at oX;cases oX
   unfold gb at p2
   simp only [iK] at p2
   split at p2 <;> try cases p2
   rename_i zv qv
   split at hc
   ·cases hc
    simp only [bD] at h
    have wi:zv.cells.size=esz:=by have:=((cQ (M:=M) (L:=L) p2).gR p5).length;rw [p4] at this;simpa using this
    obtain ⟨r,w',M',b,h1,h2,h3,h4,h5,h6,h7,h8,h9,h10⟩:=F8 (P:=P) hf.st ht iK qv de rM p3 rN wi h (hf.eval hk)
    exact xe hf hd (by simp only [execOp,cW];exact bc h1) h2 h4 h5 h6 (fun q b' ey=>by cases ey;exact h7 q) (fun b' ey=>by cases ey;exact ⟨h8,h9,h10⟩) h3
   ·split at hc <;> cases hc
    rename_i hsame
    simp only [bD] at h
    have Bo:a.eval l=a.eval c:=by
     unfold LI at hsame
     split at hsame
     ·simp at hsame;subst hsame;rfl
     ·simp at hsame;subst hsame;rfl
     ·cases hsame
    have Ds:∀ y∈z.cells,∀ own xs,y=.aj own xs→own=0:=by
     intro y hy own xs e
     have:=aaO.1 BC y hy
     subst e
     simpa using this
    obtain ⟨r,x,L',w',H',h1,h2,h3,h4,h5,h6,h7⟩:=F7 (P:=P) hf.st ht iK qv de rM p3 rN p2 p5 p4 Ds h (hf.eval hk)
    exact pI hf hd (by simp only [execOp,cW,Bo];exact bc h1) h2 h3 h5 h6 h7 h4
 | slice t x lo hi mx=>
   simp only [cE,cW] at hc
   split at hc <;> try cases hc
   ·rename_i e i l h' m ht mq hl hh hm
    split at hc <;> try cases hc
    rename_i esz he
    split at hc <;> cases hc
    rename_i h0
    by_cases Pq:fl=4
    ·rw [if_pos Pq] at h
     simp only [bD] at h
     obtain ⟨ad,k,c,own,ys,h1,h2,⟨h3,h3'⟩,h4⟩:=wZ (P:=P) hf.st ht he h0 h.2 (hf.eval mq) h.1 (cz hf hl) (cz hf hh) (cz hf hm)
     cases h3
     obtain ⟨rfl,_⟩:=h4 (by omega)
     have hk:k=0:=by
      cases h2 with
      | iG=>rfl
      | aj b off c own e cs xs he hx hn=>simp at hn
     subst hk
     exact bU hf hd ⟨_,_,by simp only [execOp,cW];exact bc h1,.oI ad,h3',by intro _ _ e;cases e⟩
    rw [if_neg Pq] at h
    simp only [bD] at h
    unfold bC at h
    split at h
    ·rename_i e0 a0 b0 c0 d0 LA
     rw [← LA] at h
     split at h
     ·rename_i Dr
      have Xl:mx=none:=by
       cases mx with
       | none=>rfl
       | some q=>simp only [lz] at hm;obtain ⟨_,_,rfl⟩:=zW.1 hm;cases Dr
      subst Xl
      obtain ⟨r,z,h1,h2,h3,h4⟩:=Dy (P:=P) ht he h (hf.eval mq) (cz hf hl) (cz hf hh)
      exact bU hf hd ⟨r,z,by simp only [execOp,cW];exact bc h1,h2,h3,h4⟩
     ·rename_i m0 Dr
      have hm3:=cz (a:=a) hf hm
      rw [Dr] at hm3
      obtain ⟨r,z,h1,h2,h3,h4⟩:=Dz (P:=P) ht he h (hf.eval mq) (cz hf hl) (cz hf hh) hm3
      exact bU hf hd ⟨r,z,by simp only [execOp,cW];exact bc h1,h2,h3,h4⟩
    obtain ⟨ad,k,c,own,ys,h1,h2,h3,h4⟩:=wZ (P:=P) hf.st ht he h0 h.2 (hf.eval mq) h.1 (cz hf hl) (cz hf hh) (cz hf hm)
    by_cases vS:own=0
    ·subst vS
     exact bU hf hd ⟨_,_,by simp only [execOp,cW];exact bc h1,h2,h3,by intro _ _ e;cases e;rfl⟩
    ·obtain ⟨rfl,h5⟩:=h4 vS
     obtain ⟨O',qn⟩:=hf.HY (dst:=o.dst) hd h2 (fun _=>h5)
     exact df (by simp only [execOp,cW];exact bc h1) ⟨M,L,H,_,O',h3,qn,Ext.refl A M w,aaG L⟩
   ·rename_i i l h' ht mq hl hh hm
    simp only [bD] at h
    have Xl:mx=none:=by
     cases mx with
     | none=>rfl
     | some q=>simp only [lz] at hm;obtain ⟨_,_,hz⟩:=zW.1 hm;cases hz
    subst Xl
    obtain ⟨r,z,h1,h2,h3,h4⟩:=zd (P:=P) (w:=w) ht h (hf.eval mq) (cz hf hl) (cz hf hh)
    exact bU hf hd ⟨r,z,by simp only [execOp,cW];exact bc h1,h2,h3,h4⟩
 | fieldAddr s x f=>
   simp only [cE,cW] at hc
   split at hc <;> cases hc
   rename_i off sz j ht hj
   simp only [bD] at h
   obtain ⟨r,z,h1,h2,h3,h4⟩:=wV (P:=P) (w:=w) ht h (hf.eval hj)
   exact bU hf hd ⟨r,z,by simp only [execOp,cW];exact bc h1,h2,h3,h4⟩
 | field s x f=>
   simp only [cE,cW] at hc
   split at hc <;> cases hc
   rename_i off sz j ht hj
   simp only [bD] at h
   obtain ⟨r,z,h1,h2,h3,h4⟩:=FY (P:=P) (w:=w) ht h (hf.eval hj)
   exact bU hf hd ⟨r,z,by simp only [execOp,cW];exact bc h1,h2,h3,h4⟩
 | indexAddr t x i=>
   simp only [cE,cW] at hc
   split at hc <;> try cases hc
   rename_i e j k ht hj hk
   obtain ⟨esz,he,rfl⟩:=zW.1 hc
   simp only [bD] at h
   obtain ⟨r,z,h1,h2,h3,h4⟩:=wW (P:=P) (w:=w) ht he h.2 h.1 (hf.eval hj) (hf.eval hk)
   exact bU hf hd ⟨r,z,by simp only [execOp,cW];exact bc h1,h2,h3,h4⟩
 | index t x i=>
   simp only [cE,cW] at hc
   split at hc <;> try cases hc
   ·rename_i j k ht hj hk
    simp only [bD] at h
    obtain ⟨r,z,h1,h2,h3,h4⟩:=y8 (P:=P) (w:=w) ht h (hf.eval hj) (hf.eval hk)
    exact bU hf hd ⟨r,z,by simp only [execOp,cW];exact bc h1,h2,h3,h4⟩
   ·rename_i m e j k ht hj hk
    split at hc <;> cases hc
    rename_i he
    simp only [bD] at h
    obtain ⟨r,z,h1,h2,h3,h4⟩:=yZ (P:=P) (w:=w) ht he h (hf.eval hj) (hf.eval hk)
    exact bU hf hd ⟨r,z,by simp only [execOp,cW];exact bc h1,h2,h3,h4⟩
 | lookup t m k ok=>
   simp only [cE,cW] at hc
   split at hc <;> try cases hc
   rename_i kt et i j ht hi hj
   split at hc <;> cases hc
   rename_i kd z hk hz
   simp only [bD] at h
   obtain ⟨r,z,h1,h2,h3,h4⟩:=Dw (P:=P) hf.st ht hk hz h (hf.eval hi) (hf.eval hj)
   exact bU hf hd ⟨r,z,by simp only [execOp,cW];exact bc h1,h2,h3,h4⟩
 | mapUpdate t m k x=>
   simp only [cW] at hnone
   simp only [cE,cW] at hc
   split at hc <;> try cases hc
   rename_i kt et i j y ht hi hj hy
   obtain ⟨kd,hk,rfl⟩:=zW.1 hc
   simp only [bD] at h
   obtain ⟨w',H',h1,h2,h3,h4⟩:=Dx (P:=P) hf.st ht hk h (hf.eval hi) (hf.eval hj) (hf.eval hy)
   refine m9 (by simp only [execOp,cW];exact rX h1) ⟨M,L,H',env,O,h2,?_,h4,aaG L⟩
   rw [hnone];exact ⟨h3,hf.size,hf.defers.ext h4⟩
 | extract x i=>
   simp only [cE,cW] at hc
   obtain ⟨j,hj,rfl⟩:=zW.1 hc
   simp only [bD] at h
   obtain ⟨r,z,h1,h2,h3,h4⟩:=Bl (P:=P) (w:=w) h (hf.eval hj)
   exact bU hf hd ⟨r,z,by simp only [execOp,cW];exact bc h1,h2,h3,h4⟩
 | call c=>
   simp only [cE,cW] at hc
   split at hc
   ·rename_i f oz
    split at hc <;> cases hc
    rename_i i js hi hj
    exact Gf cW oz hi hj hp hf hd h
   ·rename_i oz
    split at hc <;> try cases hc
    rename_i x t hargs BE
    have hcall:c={ callee:=.builtin .len,args:=#[x],argTypes:=#[t] }:=by
     obtain ⟨c1,c2,c3⟩:=c
     simp only at oz hargs BE
     subst oz
     rw [show c2=#[x] from Array.ext' hargs,show c3=#[t] from Array.ext' BE]
    subst hcall
    have fin:∀ {d:TypeDesc} {kd:Nat} {j:IX},P.underlying t=some d→aW x=some j→jT d (au env j)=true→(fj (au env j) H fun z=>K (put o.dst z env) H)→o.wpIn (wf ro) 0 P a w (ow A n M L w K) Q:=by
     intro d kd j ht hj hk h
     obtain ⟨r,z,h1,h2,h3,h4⟩:=Lu (P:=P) ht hf.st hk h (hf.eval hj) o.type
     refine bU hf hd ⟨r,z,?_,h2,h3,h4⟩
     simp only [execOp,cW,resolve,invoke,builtin,Sem.run_bind,Sem.run_pure,Result.andThen_ok,ac9,List.map_cons,List.map_nil,h1]
    split at hc <;> cases hc
    ·rename_i j ht hj;exact fin (kd:=0) ht hj (JC h.1) h.2
    ·rename_i e j ht hj;exact fin (kd:=0) ht hj (DE h.1 e) h.2
    ·rename_i k e j ht hj;exact fin (kd:=0) ht hj (JD h.1 k e) h.2
   ·rename_i oz
    split at hc <;> try cases hc
    rename_i s x t t' hargs BE
    split at hc <;> try cases hc
    rename_i htt
    subst htt
    split at hc <;> try cases hc
    rename_i e i j ht hi hj
    split at hc <;> try cases hc
    rename_i esz z bytes hz hb
    split at hc <;> try cases hc
    rename_i rN
    have hcall:c={ callee:=.builtin .append,args:=#[s,x],argTypes:=#[t,t] }:=by
     obtain ⟨c1,c2,c3⟩:=c
     simp only at oz hargs BE
     subst oz
     rw [show c2=#[s,x] from Array.ext' hargs,show c3=#[t,t] from Array.ext' BE]
    subst hcall
    split at hc
    ·split at hc <;> cases hc
     rename_i BC
     exact zh cW ht hz hb rN BC hi hj hf hd h
    split at hc
    ·split at hc <;> cases hc
     rename_i BC
     exact zi cW ht hz hb rN BC hi hj hf hd hp h
    cases hc
    exact BB cW ht hz hb rN hi hj hf hd h
   ·rename_i oz
    split at hc <;> try cases hc
    rename_i x y hargs
    split at hc <;> cases hc
    rename_i i j hi hj
    simp only [bD] at h
    obtain ⟨r,z,h1,h2,h3,h4⟩:=HZ (P:=P) (w:=w) (big:=true) h (hf.eval hi) (hf.eval hj) c.argTypes o.type
    refine bU hf hd ⟨r,z,?_,h2,h3,h4⟩
    have hargs':c.args=#[x,y]:=Array.ext' hargs
    simp only [if_true] at h1
    simp only [execOp,cW,resolve,oz,invoke,builtin,Sem.run_bind,Sem.run_pure,Result.andThen_ok,hargs',ac9,List.map_cons,List.map_nil,h1]
   ·rename_i oz
    split at hc <;> try cases hc
    rename_i x y hargs
    split at hc <;> cases hc
    rename_i i j hi hj
    simp only [bD] at h
    obtain ⟨r,z,h1,h2,h3,h4⟩:=HZ (P:=P) (w:=w) (big:=false) h (hf.eval hi) (hf.eval hj) c.argTypes o.type
    refine bU hf hd ⟨r,z,?_,h2,h3,h4⟩
    have hargs':c.args=#[x,y]:=Array.ext' hargs
    simp only [acg,if_false] at h1
    simp only [execOp,cW,resolve,oz,invoke,builtin,Sem.run_bind,Sem.run_pure,Result.andThen_ok,hargs',ac9,List.map_cons,List.map_nil,h1]
   ·cases hc
 | _=>simp [cE,cW] at hc
theorem Gg (o:Oper) (hf:Fr A n M L w H env O a) (hd:∀ d,o.dst=some d→d < n) (h:bD ⟨P,lo⟩ (rW P o) o.dst env H K):o.wpIn (wf ro) 0 P a w (ow A n M L w K) Q:=by
 cases cW:o.op with
 | call c=>
   simp only [rW,cW] at h
   split at h <;> try exact h.elim
   rotate_left
   ·rename_i oz
    split at h <;> try exact h.elim
    rename_i s t hargs BE
    split at h <;> try exact h.elim
    rename_i e i ht hi
    split at h <;> try exact h.elim
    rename_i esz z hz
    simp only [bD] at h
    unfold cw at hz
    split at hz <;> try cases hz
    rename_i esz' z' OO ni
    split at hz <;> cases hz
    rename_i hcond
    obtain ⟨h0,gS,qv⟩:=hcond
    obtain ⟨inf,iK,de⟩:=zW.1 OO
    unfold gb at ni
    simp only [iK] at ni
    split at ni <;> try cases ni
    rename_i zv tH
    obtain ⟨w',H',O',h1,h2,h3,h4⟩:=DC (P:=P) hf.st ht iK tH h0 ni qv gS h (hf.eval hi) o.type
    obtain ⟨O'',qn⟩:=(hf.mono h3 h4).oK (dst:=o.dst) hd (.tuple [] [] .nil) (by intro _ _ e;cases e)
    have hargs':c.args=#[s]:=Array.ext' hargs
    have LK:c.argTypes=#[t]:=Array.ext' BE
    refine df (v:=.tuple #[]) ?_ ⟨M,L,H',_,O'',h2,qn,h4,aaG L⟩
    simp only [execOp,cW,resolve,oz,invoke,builtin,Sem.run_bind,Sem.run_pure,Result.andThen_ok,hargs',LK,ac9,List.map_cons,List.map_nil,h1]
   rename_i oz
   split at h <;> try exact h.elim
   rename_i s x t t' hargs BE
   split at h <;> try exact h.elim
   rename_i e i j ht hi hj
   split at h <;> try exact h.elim
   rename_i esz he
   simp only [bD] at h
   obtain ⟨r,z,w',H',O',h1,h2,h3,h4,h5,h6⟩:=Jx (P:=P) hf.st ht he h (hf.eval hi) (hf.eval hj) t' o.type
   obtain ⟨O'',qn⟩:=(hf.mono h4 h5).oK (dst:=o.dst) hd h2 h6
   have hargs':c.args=#[s,x]:=Array.ext' hargs
   have LK:c.argTypes=#[t,t']:=Array.ext' BE
   refine df (v:=r) ?_ ⟨M,L,H',_,O'',h3,qn,h5,aaG L⟩
   simp only [execOp,cW,resolve,oz,invoke,builtin,Sem.run_bind,Sem.run_pure,Result.andThen_ok,hargs',LK,ac9,List.map_cons,List.map_nil,h1]
 | _=>simp only [rW,cW] at h;exact h.elim
theorem Gh (o:Oper) (hf:Fr A n M L w H env O a) (hd:∀ d,o.dst=some d→d < n) (h:bD ⟨P,lo⟩ (oW P o) o.dst env H K):o.wpIn (wf ro) 0 P a w (ow A n M L w K) Q:=by
 have key:∀ {x:Operand},(o.op=.move x∨o.op=.assign x)→∀ {i:IX} {esz:Nat},aW x=some i→(gf esz (au env i) H fun z H'=>K (put o.dst z env) H')→o.wpIn (wf ro) 0 P a w (ow A n M L w K) Q:=by
  intro x ho i esz hi h
  obtain ⟨z,M',H',O',h1,h2,h3,h4,h5⟩:=tK hf.st h (hf.eval hi)
  have bL:(execOp a.eval o).run P w=.ok (.value (a.eval x)) w:=by
   rcases ho with ho | ho <;> simp [execOp,ho]
  obtain ⟨O'',qn⟩:=(hf.mono h3 h4).oK (dst:=o.dst) hd h1 h5
  exact df bL ⟨M',L,H',_,O'',h2,qn,h4,aaG L⟩
 cases cW:o.op with
 | move x=>
   simp only [oW,cW] at h
   split at h <;> try exact h.elim
   rename_i hi ht
   split at h <;> try exact h.elim
   exact key (.inl cW) hi h
 | assign x=>
   simp only [oW,cW] at h
   split at h <;> try exact h.elim
   rename_i hi ht
   split at h <;> try exact h.elim
   exact key (.inr cW) hi h
 | _=>simp only [oW,cW] at h;exact h.elim
theorem DF (o:Oper) (esz:Nat) (hf:Fr A n M L w H env O a) (hd:∀ d,o.dst=some d→d < n) (h:bD ⟨P,lo⟩ (mr esz o) o.dst env H K):o.wpIn (wf ro) 0 P a w (ow A n M L w K) Q:=by
 have key:∀ {x:Operand},(o.op=.move x∨o.op=.assign x)→∀ {i:IX},aW x=some i→(gf esz (au env i) H fun z H'=>K (put o.dst z env) H')→o.wpIn (wf ro) 0 P a w (ow A n M L w K) Q:=by
  intro x ho i hi h
  obtain ⟨z,M',H',O',h1,h2,h3,h4,h5⟩:=tK hf.st h (hf.eval hi)
  have bL:(execOp a.eval o).run P w=.ok (.value (a.eval x)) w:=by
   rcases ho with ho | ho <;> simp [execOp,ho]
  obtain ⟨O'',qn⟩:=(hf.mono h3 h4).oK (dst:=o.dst) hd h1 h5
  exact df bL ⟨M',L,H',_,O'',h2,qn,h4,aaG L⟩
 cases cW:o.op with
 | move x=>
   simp only [mr,cW] at h
   split at h <;> try exact h.elim
   rename_i hi
   exact key (.inl cW) hi h
 | assign x=>
   simp only [mr,cW] at h
   split at h <;> try exact h.elim
   rename_i hi
   exact key (.inr cW) hi h
 | _=>simp only [mr,cW] at h;exact h.elim
theorem uZ (o:Oper) {fl:Nat} (hp:∀ l,lo=some l→∀ id,l≤id→A.top id=none) (hf:Fr A n M L w H env O a) (hd:∀ d,o.dst=some d→d < n) (hnone:(match o.op with | .store .. | .mapUpdate ..=>o.dst=none | _=>True))
 (h:bD ⟨P,lo⟩ (DD P o fl) o.dst env H K):o.wpIn (wf ro) 0 P a w (ow A n M L w K) Q:=by
 unfold DD at h
 split at h
 ·exact Gh o hf hd h
 split at h
 ·exact DF o _ hf hd h
 cases hc:cE P o fl with
 | none=>rw [hc] at h;exact Gg o hf hd h
 | some i=>rw [hc] at h;exact LJ o hc hp hf hd hnone h
end
end Go.aI
end
section
namespace Go.aI
open Go
section
variable {M:Mem} {L:List Nat}
theorem sd {n:Nat}:∀ {xs:List AV},(∀ x∈xs,x.cells.length≠0)→al n (flat xs)=true→al n xs=true
 | [],_,_=>rfl
 | x::xs,hx,h=>by
   rw [a9] at h ⊢
   intro y hy
   rcases Xi.1 hy with rfl | hy
   ·cases y with
    | agg ys=>
      simp only [AV.bb]
      rw [a9]
      intro z hz
      exact h z (by simp [flat,AV.cells,hz])
    | _=>exact h _ (by simp [flat,AV.cells])
   ·have:=sd (xs:=xs) (n:=n) (fun x rJ=>hx x (aaK _ rJ)) (by
     rw [a9]
     intro z hz
     exact h z (by simp only [flat,List.flatMap_cons,abZ] at hz ⊢;exact .inr hz))
    rw [a9] at this
    exact this y hy
theorem JE {n:Nat} {x:AV} (h:al n x.cells=true):x.bb n=true:=by
 cases x <;> simp_all [AV.cells,AV.bb,al]
theorem aZ.Pw {v:Value} {x:AV} (h:aZ M L v x):x.bb L.length=true:=by
 induction h using aZ.rec (motive_2:=fun vs xs _=>al L.length xs=true) with
 | aj b off c own e cs xs he hx hn hle hc hr hm ih=>exact sd (fun x rJ=>by rw [hx x rJ];omega) ih
 | a7 b off len cap id hl hc=>simp only [AV.bb,decide_eq_true_eq];exact aQ hl
 | agg cs xs hr ih=>exact ih
 | tuple cs xs hr ih=>exact ih
 | ptr b off id hl=>simp only [AV.bb,decide_eq_true_eq];exact aQ hl
 | ai b off cs x hr hm ih=>simp only [AV.bb];exact JE ih
 | map b id hl=>simp only [AV.bb,decide_eq_true_eq];exact aQ hl
 | oJ b id hl=>simp only [AV.bb,decide_eq_true_eq];exact aQ hl
 | fn f fs cs xs ys h1 h2 i1 i2=>simp only [AV.bb,zU];exact ⟨i1,i2⟩
 | iface t v x h ih=>exact ih
 | cons v x vs xs h t i1 i2=>simp only [al,zU];exact ⟨i1,i2⟩
 | nil=>rfl
 | _=>rfl
theorem aN.Pw:∀ {vs:List Value} {xs:List AV},aN M L vs xs→al L.length xs=true
 | _,_,.nil=>rfl
 | _,_,.cons _ _ _ _ h t=>by simp only [al,zU];exact ⟨h.Pw,t.Pw⟩
end
section
variable {A:Perm} {M:Mem} {L:List Nat} {w:World} {H:List aa} {ev:Nat→Value} {ea:Nat→AV} {O:Pos→Option Nat}
theorem St.pK (h:St A M L w H ev ea O) {id b:Nat} {st st':Xj} {lc:jE} {es:List AV} {r':Loop} (bn:H[id]?=some (.loop st lc es)) (hL:L[id]?=some b)
 (hr:∀ r,w.heap[b]?=some (.loop r)→r'.params=r.params∧r'.assign=r.assign∧r'.body=r.body∧r'.tmps=r.tmps∧r'.defers=r.defers∧st'.ok r') :
 St A M L (w.putObj b (.loop r')) (H.set id (.loop st' lc es)) ev ea O∧Ext A M w M (w.putObj b (.loop r')):=by
 have zX:b∈L:=abm hL
 have T3:=h.lt b zX
 obtain ⟨r0,hc,p1,p2,p3,p4,p5⟩:=h.obj id _ b bn hL
 obtain ⟨q1,q2,q3,q4,q5,q6⟩:=hr r0 hc
 have gQ:∀ k,k≠b→(w.putObj b (.loop r')).heap[k]?=w.heap[k]?:=fun k hk=>World.putObj_heap_other hk
 have ou:(w.putObj b (.loop r')).heap[b]?=some (.loop r'):=World.putObj_heap_same T3
 have Xk:∀ o,M b o=none:=by
  intro o
  cases hm:M b o with
  | none=>rfl
  | some v=>
    have:=h.mem b o v hm
    simp [World.cell?,hc] at this
 have rR:id < H.length:=aQ bn
 refine ⟨{ len:=by simp [h.len],nodup:=h.nodup,env:=h.env,mem:=?_,obj:=?_,bG:=?_,lt:=?_,je:=?_,jc:=?_,cq:=h.cq,cC:=h.cC,fP:=?_,La:=h.La,Oa:=h.Oa,fresh:=?_ },?_⟩
 ·intro k o v hv
  have hk:k≠b:=by rintro rfl;rw [Xk o] at hv;cases hv
  have:=h.mem k o v hv
  simp only [World.cell?] at this ⊢
  rw [gQ k hk];exact this
 ·intro id' o k ho hk
  by_cases e0:id'=id
  ·subst e0
   rw [hL] at hk;cases hk
   rw [aai rR] at ho
   cases ho
   exact ⟨r',ou,q1.trans p1,q2.trans p2,q3.trans p3,by rw [q4];exact p4,q6⟩
  ·rw [zS (fun h'=>e0 h'.symm)] at ho
   have FL:k≠b:=by
    rintro rfl
    exact e0 ((adk (aQ hk) h.nodup).1 (hk.trans hL.symm))
   exact (h.obj id' o k ho hk).mono (Mem.bW M) (aaG _) (gQ k FL) (fun _=>rfl)
 ·intro id' o ho
  rw [acK]
  by_cases e0:id'=id
  ·subst e0
   rw [aai rR] at ho
   cases ho
   exact h.bG id' (.loop st lc es) bn
  ·rw [zS (fun h'=>e0 h'.symm)] at ho
   exact h.bG id' o ho
 ·intro k hk;simpa using h.lt k hk
 ·intro t
  exact (h.je t).mono fun k hk=>⟨gQ k (fun e3=>h.cC _ k hk (e3 ▸ zX)),fun _=>rfl⟩
 ·intro id' j
  by_cases e0:id'=id
  ·subst e0
   have hn:O (.c id' j)=none:=by
    have:=h.jc id' j
    simp only [bE,bn] at this
    exact this
   have e2:bE (H.set id' (.loop st' lc es)) id' j=.any:=by
    unfold bE
    rw [aai rR]
   rw [e2,hn];rfl
  ·have e1:bT L (w.putObj b (.loop r')) id' j=bT L w id' j:=by
    unfold bT
    split
    ·rename_i k hk
     have FL:k≠b:=by
      rintro rfl
      exact e0 ((adk (aQ hk) h.nodup).1 (hk.trans hL.symm))
     simp only [World.cell?]
     rw [gQ k FL]
    ·rfl
   have e2:bE (H.set id (.loop st' lc es)) id' j=bE H id' j:=by
    unfold bE
    rw [zS (fun h'=>e0 h'.symm)]
   rw [e1,e2]
   exact (h.jc id' j).mono fun k hk=>⟨gQ k (fun e3=>h.cC _ k hk (e3 ▸ zX)),fun _=>rfl⟩
 ·intro p k hp;simpa using h.fP p k hp
 ·intro k hk;simp at hk;exact h.fresh k hk
 ·exact ⟨Mem.bW M,by simp,rfl,rfl,rfl,fun k hk hA=>⟨gQ k (fun e0=>hA (e0 ▸ h.La b zX)),fun _=>rfl⟩,fun k r hk=>by
   by_cases e0:k=b
   ·subst e0
    rw [hc] at hk;cases hk
    exact ⟨r',ou,q5⟩
   ·exact ⟨r,(gQ k e0).trans hk,rfl⟩⟩
def Perm.X2 (A:Perm) (D:Nat):Perm:=⟨fun b=>A b∧b≠D,A.top,A.ok,A.base⟩
def Perm.Le (A' A:Perm):Prop:=A'.top=A.top∧(∀ b,A' b→A b)∧A'.base=A.base
theorem Perm.Le.refl (A:Perm):A.Le A:=⟨rfl,fun _ h=>h,rfl⟩
theorem Perm.Le.trans {A B C:Perm} (h:A.Le B) (k:B.Le C):A.Le C:=⟨h.1.trans k.1,fun b hb=>k.2.1 b (h.2.1 b hb),h.2.2.trans k.2.2⟩
theorem Perm.BF (A:Perm) (D:Nat):(A.X2 D).Le A:=⟨rfl,fun _ h=>h.1,rfl⟩
theorem Perm.Le.jb {A' A:Perm} (h:A'.Le A) (len id:Nat):A'.jb len id=A.jb len id:=by unfold Perm.jb;rw [h.1]
theorem Ext.le {A':Perm} {M':Mem} {w':World} (h:Ext A' M w M' w') (hl:A'.Le A):Ext A M w M' w':=
 ⟨h.mh,h.size,h.os,h.tape,h.output,fun b hb hA=>h.kH b hb fun h'=>hA (hl.2.1 b h'),h.loops⟩
theorem St.le {A':Perm} (h:St A' M L w H ev ea O) (hl:A'.Le A):St A M L w H ev ea O:=
 { h with bG:=fun id o ho=>by rw [← hl.jb];exact h.bG id o ho,La:=fun b hb=>hl.2.1 b (h.La b hb),Oa:=fun p b hp=>hl.2.1 b (h.Oa p b hp),fresh:=fun b hb=>hl.2.1 b (h.fresh b hb) }
theorem St.X2 (h:St A M L w H ev ea O) {D:Nat} (h1:D∉L) (h2:∀ p,O p≠some D) (h3:D < w.heap.size):St (A.X2 D) M L w H ev ea O:=
 { h with
   bG:=fun id o ho=>by rw [(A.BF D).jb];exact h.bG id o ho
   La:=fun b hb=>⟨h.La b hb,fun e=>h1 (e ▸ hb)⟩
   Oa:=fun p b hp=>⟨h.Oa p b hp,fun e=>h2 p (e ▸ hp)⟩
   fresh:=fun b hb=>⟨h.fresh b hb,fun e=>by omega⟩ }
theorem SC.le {A':Perm} {ds:List Deferred} (h:SC A w ds) (hl:A'.Le A):SC A' w ds:=⟨by rw [hl.2.2];exact h.1,h.2.1,fun d hd=>by
 obtain ⟨D,h1,h2,h3,h4⟩:=h.2.2 d hd
 exact ⟨D,h1,h2,fun h'=>h3 (hl.2.1 D h'),by rw [hl.2.2];exact h4⟩⟩
end
end Go.aI
end
section
namespace Go.aI
open Go
structure bH where
 g:Option (Nat×Bool)
 dst:Option Nat
 op:ch
 deriving Inhabited
inductive DT where
 | done
 | take (st:Bool) (o:bH) (r:DT)
 | br (o:bH) (t rest:DT)
 | nil
 deriving Inhabited
def inst (il:List bH):yX→DT
 | .done=>.done
 | .take i st r=>.take st (il.getD i default) (inst il r)
 | .br i t rest=>.br (il.getD i default) (inst il t) (inst il rest)
 | .nil=>.nil
inductive IR where
 | skip
 | region (ops:List bH) (live:Option (List Nat))
 | draw (t:DT) (live:Option (List Nat))
 | seq (a b:IR)
 | cond (x:IX) (a b:IR)
 | block (id:Nat) (a:IR)
 | loop (a:IR)
 | exit (id:Nat)
 | ret
 | never
 | jW (f:IX) (lc:jE)
 deriving Inhabited
def fa (live:Option (List Nat)) (env:Env):Env:=
 match live with
 | none=>env
 | some l=>l.map fun t=>(t,get env t)
def jo (env:Env) (g:Nat) (want:Bool) (yes no:Env→Prop):Prop:=
 match get env g with
 | .bool b=>(b=want→yes ((g,.bool want)::env))∧(b=(!want)→no ((g,.bool (!want))::env))
 | .tuple []=>no env
 | _=>False
def tM (P:Px) (o:bH) (env:Env) (H:List aa) (K:Env→List aa→Prop):Prop:=
 match o.g with
 | none=>bD P o.op o.dst env H K
 | some (g,want)=>jo env g want (fun env=>bD P o.op o.dst env H K) (fun env=>K (put o.dst (.tuple []) env) H)
def ku (P:Px):List bH→Env→List aa→(Env→List aa→Prop)→Prop
 | [],env,H,K=>K env H
 | o::r,env,H,K=>tM P o env H fun env H=>ku P r env H K
def di (P:Px) (o:ch) (ρ:IX→AV) (H:List aa) (x:AV):Prop:=
 match o with
 | .set i false=>(ρ i).ab=x
 | .pick c a b=>fA (ρ c) fun q=>(q=true→(ρ a).ab=x)∧(q=false→(ρ b).ab=x)
 | .bin op i j=>dl op (ρ i) (ρ j) fun z=>z=x
 | .shift op i j=>eE op (ρ i) (ρ j) fun z=>z=x
 | .jl neq i j=>dc neq (ρ i) (ρ j) fun z=>z=x
 | .kg kd neq i=>dx kd neq (ρ i) fun z=>z=x
 | .un op i=>Bk op (ρ i) fun z=>z=x
 | .m8 i=>(ρ i).val=true∧.ai (ρ i)=x
 | .build z ps=>cD z.cells (ps.map fun q=>(q.1,q.2.1,ρ q.2.2)) fun v=>v=x
 | .buildSlice own esz z len ps=>bm (List.replicate len (aU z)) esz (ps.map fun q=>(q.1,ρ q.2)) fun xs=>.aj own xs=x
 | .load sz i=>aY sz (ρ i) H fun z=>z=x
 | .nilCheck i=>b9 (ρ i) fun z=>z=x
 | .fieldAddr off sz i=>ap off sz (ρ i) fun z=>z=x
 | .field off sz i=>fB off sz (ρ i) fun z=>z=x
 | .indexAddr esz i j=>(∀ own xs,ρ i=.aj own xs→∀ z∈xs,z.cells.length=esz)∧aE esz (ρ i) (ρ j) fun z=>z=x
 | .dm i j=>bO (ρ i) (ρ j) fun z=>z=x
 | .eC n i j=>b8 n (ρ i) (ρ j) fun z=>z=x
 | .slice esz i lo hi mx=>bC esz (ρ i) (lo.map ρ) (hi.map ρ) (mx.map ρ) fun z=>z=x
 | .eD i lo hi=>cv (ρ i) (lo.map ρ) (hi.map ρ) fun z=>z=x
 | .len kd i=>aO kd (ρ i)∧fj (ρ i) H fun z=>z=x
 | .lookup kd z m k ok=>cB kd z (ρ m) (ρ k) ok H fun v=>v=x
 | .fn f first cap=>.fn f (first.map fun x=>(ρ x).ab) (cap.map fun x=>(ρ x).ab)=x
 | .extract i k=>bK (ρ i) k fun z=>z=x
 | .call f args none=>match ρ f with
   | .fn (.func g) first cap=>∃ bX,ze (first.map AV.ab++(args.map fun x=>(ρ x).ab)++cap.map AV.ab) bX∧ax P.prog g bX H (fun r H'=>r=x∧H'=H)
   | _=>False
 | .fp k i=>cI k (ρ i) fun z=>z=x
 | .iI i=>gA (ρ i) fun z=>z=x
 | .bytesOf i=>fI 1 (ρ i) fun z=>z=x
 | .oN esz bytes i=>jU esz bytes (ρ i) fun z=>z=x
 | .strOf i=>kM (ρ i) fun z=>z=x
 | .mx big i j=>yY big (ρ i) (ρ j) fun z=>z=x
 | _=>False
def dv (P:Px) (st:Bool) (o:ch) (ρ:IX→AV) (H:List aa) (x:AV):Prop:=
 match st with
 | true=>di P o ρ H x
 | false=>∀ H',di P o ρ H' x
def u0 (P:Px) (st:Bool) (o:bH) (env:Env) (H:List aa) (K:Env→Prop):Prop:=
 match o.g with
 | none=>∃ x,dv P st o.op (au env) H x∧K (put o.dst x env)
 | some (g,want)=>jo env g want (fun _=>∃ x,dv P st o.op (au env) H x∧K (put o.dst x env)) (fun _=>K (put o.dst (.tuple []) env))
def wu (P:Px):DT→Env→List aa→(Env→List aa→Prop)→Prop
 | .done,env,H,K=>K env H
 | .take st o r,env,H,K=>u0 P st o env H fun env=>wu P r env H K
 | .br o t rest,env,H,K=>tM P o env H (fun env H=>wu P t env H K)∧wu P rest env H K
 | .nil,_,_,_=>True
def sle (n0:Nat) (env:Env) (H:List aa) (aK:Env) (H':List aa):Prop:=
 (∀ t,(get env t).le (get aK t))∧(H'=H∨∃ m,n0≤m∧H'=H.take m∧∀ t,(get aK t).bb m=true)
def JF (n0:Nat) (env:Env) (H:List aa) (aK:Env) (H':List aa):Prop:=
 (∀ t,(get env t).le (get aK t))∧(H'=H∨∃ m,n0≤m∧H'=H.take m∧(∀ id o,n0≤id→id < m→H[id]?=some o→o.bb m=true)∧∀ t,(get aK t).bb m=true)
def JG (lo:Option Nat) (n0:Nat) (env:Env) (H:List aa) (aK:Env) (H':List aa):Prop:=
 match lo with
 | none=>sle n0 env H aK H'
 | some _=>JF n0 env H aK H'
def lV (n:Nat) (env:Env):List AV:=(List.range n).map fun t=>(get env t).ab
def behind (id:Nat) (H':List aa) (K:Option Code→List aa→Prop):Prop:=
 match H'[id]? with
 | some (.loop .ready lc es)=>K none (H'.set id (.loop .fh lc es))
 | some (.loop (.jump c) lc es)=>K (some c) (H'.set id (.loop .fh lc es))
 | _=>False
def qT (j:Option Code) (Q:Exit→Env→List aa→Prop) (env:Env) (H:List aa):Prop:=
 match j with
 | none=>Q .normal env H
 | some .ret=>Q .ret env H
 | some (.exit id)=>Q (.exit id) env H
 | _=>False
def mX (P:Px) (n0:Nat):IR→Env→List aa→(Exit→Env→List aa→Prop)→Prop
 | .skip,env,H,Q=>Q .normal env H
 | .region ops live,env,H,Q=>ku P ops env H fun aK H'=>Q .normal (fa live aK) H'
 | .draw t live,env,H,Q=>wu P t env H fun aK H'=>Q .normal (fa live aK) H'
 | .seq a b,env,H,Q=>mX P n0 a env H fun e aK H'=>match e with
   | .normal=>mX P n0 b aK H' Q
   | e=>Q e aK H'
 | .cond x a b,env,H,Q=>fA (au env x) fun q=>(q=true→mX P n0 a env H Q)∧(q=false→mX P n0 b env H Q)
 | .block id a,env,H,Q=>mX P n0 a env H fun e aK H'=>match e with
   | .exit id'=>if id'=id then Q .normal aK H' else Q (.exit id') aK H'
   | e=>Q e aK H'
 | .loop a,env,H,Q=>∃ (ι:Type) (I:ι→Prop) (se:ι→Env) (sh:ι→List aa) (μ:ι→Nat),(∃ i,I i∧JG P.lo n0 env H (se i) (sh i))∧
    ∀ i,I i→mX P n0 a (se i) (sh i) fun e aK H'=>match e with
     | .normal=>∃ j,I j∧μ j < μ i∧JG P.lo n0 aK H' (se j) (sh j)
     | e=>Q e aK H'
 | .exit id,env,H,Q=>Q (.exit id) env H
 | .ret,env,H,Q=>Q .ret env H
 | .never,env,H,Q=>False
 | .jW f lc,env,H,Q=>match au env f with
   | .fn (.func g) first cap=>(∀ (as:Array Value) (w:World),(callFunc g as).run P.prog w=.ok (.enter g as) w)∧
     ∃ bX,ze (first.map AV.ab++[.oJ H.length]++cap.map AV.ab) bX∧dG P g bX (H++[.loop .ready lc (lV lc.n env)]) fun _ H'=>behind H.length H' fun j H''=>qT j Q env H''
   | _=>False
def C7.at_ (an:C7) (r i:Nat):Nat:=match an.find? fun x=>x.1 == r && x.2.1 == i with | some x=>x.2.2 | none=>0
def mf.at_ (lv:mf) (r:Nat):Option (List Nat):=(lv.find? fun x=>x.1 == r).map (·.2)
def Ia (n:Nat) (o:Oper):Bool:=(match o.dst with | some d=>d < n | none=>true) && (match o.op with | .store .. | .mapUpdate ..=>o.dst.isNone | _=>true)
def Ib (ops:Array Oper) (o:Oper):Option (Option (Nat×Bool)):=
 match o.guard with
 | none=>some none
 | some (j,want)=>match (ops[j]?).bind (·.dst) with
   | some g=>some (some (g,want))
   | none=>none
def Ic (i:IX) (d:Nat):Bool:=match i with | .t s=>decide (s≠d) | _=>true
def Ud (P:Program) (ops:Array Oper) (n:Nat) (fl:Nat) (o o':Oper):Option bH:=
 match fl,o.op,o.dst,o.guard,o'.op,o'.dst,o'.guard with
 | 2,.alloc e,some d,none,.store t (.tmp d') x,none,none=>
   if d=d'∧d < n∧t=e then (match aW x,dY P t,gb P e with
    | some i,some m,some z=>if Ic i d=true∧z.cells.length=m∧z.val=true∧m≠0 then some ⟨none,some d,.tC m i⟩ else none
    | _,_,_=>none) else none
 | _,_,_,_,_,_,_=>none
def fq (P:Program) (ops:Array Oper) (an:C7) (n rid:Nat) (fu:Bool):Nat→Nat→List Oper→Option (List bH)
 | _,_,[]=>some []
 | 0,_,_=>none
 | fuel + 1,k,o::r=>
   if an.at_ rid k=1000∧fu=true then
    match r with
    | o'::r'=>match Ud P ops n 2 o o',fq P ops an n rid fu fuel (k + 2) r' with
      | some x,some xs=>some (x::xs)
      | _,_=>none
    | []=>none
   else
    match Ib ops o,fq P ops an n rid fu fuel (k + 1) r with
    | some g,some xs=>if Ia n o=true then some (⟨g,o.dst,DD P o (an.at_ rid k)⟩::xs) else none
    | _,_=>none
def ch.all:ch→List IX
 | .set i _=>[i]
 | .pick c a b=>[c,a,b]
 | .bin _ i j | .shift _ i j | .jl _ i j | .indexAddr _ i j | .dm i j | .eC _ i j | .lookup _ _ i j _ | .mx _ i j | .store _ i j | .oM _ i j | .append _ _ i j | .kj _ _ _ i j | .km _ _ _ i j | .copy _ i j=>[i,j]
 | .oP _ _ i | .Bi _ i | .kg _ _ i | .un _ i | .box i | .m8 i | .tC _ i | .load _ i | .uO _ _ i | .eY i | .nilCheck i | .fieldAddr _ _ i | .field _ _ i | .len _ i | .uP _ _ _ i | .oN _ _ i | .extract i _ | .fp _ i | .iI i | .bytesOf i | .strOf i=>[i]
 | .fR i s=>[i,.t s]
 | .lO _ i j k=>[i,j,k]
 | .build _ ps=>ps.map fun q=>q.2.2
 | .buildSlice _ _ _ _ ps | .Dg _ _ _ ps=>ps.map fun q=>q.2
 | .slice _ i lo hi m | .qP _ i lo hi m=>i::(lo.toList++hi.toList++m.toList)
 | .eD i lo hi=>i::(lo.toList++hi.toList)
 | .fn _ first cap=>first++cap
 | .call f args _=>f::args
 | .alloc _ | .oO | .never=>[]
def IX.SL:List IX→List Nat:=fun l=>l.filterMap fun i=>match i with | .t s=>some s | .c _=>none
def ch.kill:ch→List Nat
 | .set (.t s) true=>[s]
 | .fR _ s=>[s]
 | .append _ _ (.t s) _=>[s]
 | .call _ args pass=>(match pass with | some j=>(match args[j]? with | some (.t s)=>[s] | _=>[]) | none=>[])
 | _=>[]
def ch.Ue:ch→Bool
 | .box _ | .alloc _ | .eY _ | .store .. | .oM .. | .uO .. | .fR .. | .uP .. | .oO | .lO .. | .call .. | .copy .. | .Bi .. | .Dg .. | .kj .. | .km .. | .oP .. | .never=>true
 | _=>false
def bH.lk (o:bH):List Nat:=IX.SL o.op.all++(match o.g with | some (g,_)=>[g] | none=>[])
def ch.Xo (o:ch) (pure:Bool):Bool:=
 match o with
 | .set _ take=>!take
 | .call _ _ none=>pure
 | .never | .call .. | .append ..=>false
 | .tC ..=>false
 | o=>!o.Ue
def ch.Aa:ch→Bool
 | .box _ | .alloc _ | .oO=>true
 | _=>false
def ch.stays:ch→Bool
 | .call ..=>false
 | _=>true
def tN (st:Bool) (oi oj:bH):Bool:=
 (match oi.dst with | some d=>!oj.lk.contains d && oj.dst != some d && !oj.op.kill.contains d | none=>true) &&
 (match oj.dst with | some d=>!oi.lk.contains d | none=>true) &&
 oj.op.kill.all (fun s=>!oi.lk.contains s) && (!st || !oj.op.Ue || (oj.op.Aa && oi.op.stays))
def dC (ops:Array Oper):Nat→Nat→Nat→Bool
 | 0,_,_=>false
 | f + 1,j,i=>match ops[j]? with
   | some o=>o.after.any fun e=>Region.binds .any e && (e.on == i || dC ops f e.on i)
   | none=>false
def oY (ops:Array Oper) (il:List bH) (listed:Array Bool) (i:Nat) (st:Bool):Bool:=
 (List.range ops.size).all fun j=>j == i || listed.getD j true || dC ops ops.size j i || tN st (il.getD i default) (il.getD j default)
def vY (ops:Array Oper) (il:List bH):Nat→Array Bool→Option (List Nat)→yX→Bool
 | _,listed,none,.done=>(Region.ready .any ops listed).isEmpty
 | f + 1,listed,none,.take i st r=>(Region.ready .any ops listed).contains i && (il.getD i default).op.Xo true && oY ops il listed i st && vY ops il f (listed.setIfInBounds i true) none r
 | f + 1,listed,none,.br i t rest=>(match Region.ready .any ops listed with | k::ks=>k == i && vY ops il f (listed.setIfInBounds i true) none t && vY ops il (f + 1) listed (some ks) rest | []=>false)
 | f + 1,listed,some (k::ks),.br i t rest=>k == i && vY ops il f (listed.setIfInBounds i true) none t && vY ops il (f + 1) listed (some ks) rest
 | _,_,some [],.nil=>true
 | _,_,_,_=>false
def kQ:List Edge→Nat
 | []=>0
 | e::r=>if Region.binds .any e=true then (1 <<< e.on) ||| kQ r else kQ r
def iN (rs:List Nat):List Edge→Nat
 | []=>0
 | e::r=>if Region.binds .any e=true∧e.on < rs.length then ((1 <<< e.on) ||| rs.getD e.on 0) ||| iN rs r else iN rs r
def fK:List Oper→List Nat→List Nat
 | [],acc=>acc
 | o::r,acc=>fK r (acc++[iN acc o.after.toList])
def ns (m:Nat):Nat→List Nat→List Nat
 | _,[]=>[]
 | i,a::r=>if m.testBit i=false∧a &&& m=a then i::ns m (i + 1) r else ns m (i + 1) r
def DG (m i:Nat) (st:Bool) (oi:bH):Nat→List Nat→List bH→Bool
 | j,r::rs,o::os=>(j == i || m.testBit j || r.testBit i || tN st oi o) && DG m i st oi (j + 1) rs os
 | _,_,[]=>true
 | _,[],_::_=>false
def mv (am rm:List Nat) (il:List bH):Nat→Nat→Option (List Nat)→yX→Bool
 | _,m,none,.done=>(ns m 0 am).isEmpty
 | f + 1,m,none,.take i st r=>(ns m 0 am).contains i && (il.getD i default).op.Xo true && DG m i st (il.getD i default) 0 rm il && mv am rm il f (m ||| (1 <<< i)) none r
 | f + 1,m,none,.br i t rest=>(match ns m 0 am with | k::ks=>k == i && mv am rm il f (m ||| (1 <<< i)) none t && mv am rm il (f + 1) m (some ks) rest | []=>false)
 | f + 1,m,some (k::ks),.br i t rest=>k == i && mv am rm il f (m ||| (1 <<< i)) none t && mv am rm il (f + 1) m (some ks) rest
 | _,_,some [],.nil=>true
 | _,_,_,_=>false
def mg.at_ (pl:mg) (r:Nat):yX:=match pl.find? fun x=>x.1 == r with | some x=>x.2 | none=>.done
def comp (P:Program) (an:C7) (lv:mf) (pl:mg) (n:Nat):Code→Option IR
 | .skip=>some .skip
 | .region id ops false=>(fq P ops an n id true (ops.size + 1) 0 ops.toList).map fun l=>.region l (lv.at_ id)
 | .region id ops true=>match fq P ops an n id false (ops.size + 1) 0 ops.toList with
   | some il=>if P.follows .mixedOrders=true∧mv (ops.toList.map fun o=>kQ o.after.toList) (fK ops.toList []) il ops.size 0 none (pl.at_ id)=true then some (.draw (inst il (pl.at_ id)) (lv.at_ id)) else none
   | none=>none
 | .seq a b=>match comp P an lv pl n a,comp P an lv pl n b with
   | some x,some y=>some (.seq x y)
   | _,_=>none
 | .cond c a b=>match aW c,comp P an lv pl n a,comp P an lv pl n b with
   | some i,some x,some y=>some (.cond i x y)
   | _,_,_=>none
 | .block id a=>(comp P an lv pl n a).map (.block id)
 | .loop a=>(comp P an lv pl n a).map .loop
 | .exit id=>some (.exit id)
 | .ret=>some .ret
 | .rangeFunc f ps as bd=>(aW f).map fun i=>.jW i ⟨n,ps.toList,as,bd,an,lv,pl⟩
 | _=>some .never
theorem gI (n k:Nat):(1 <<< n).testBit k=decide (n=k):=by
 rw [Nat.shiftLeft_eq,Nat.one_mul,Nat.testBit_two_pow]
theorem Gi (m:Nat):∀ (es:List Edge),(kQ es &&& m=kQ es)↔∀ e∈es,Region.binds .any e=true→m.testBit e.on=true:=by
 have key:∀ a:Nat,(a &&& m=a)↔∀ i,a.testBit i=true→m.testBit i=true:=by
  intro a
  constructor
  ·intro h i hi
   rw [← h] at hi
   simp only [Nat.testBit_and,zU] at hi
   exact hi.2
  ·intro h
   apply Nat.eq_of_testBit_eq
   intro i
   rw [Nat.testBit_and]
   cases ha:a.testBit i with
   | false=>simp
   | true=>simp [h i ha]
 intro es
 rw [key]
 induction es with
 | nil=>simp [kQ]
 | cons e r ih=>
   simp only [kQ]
   split
   ·rename_i hb
    constructor
    ·intro h e' Gj ey
     rcases Xi.1 Gj with rfl | Gj
     ·exact h _ (by simp [gI])
     ·exact ih.1 (fun i hi=>h i (by simp [hi])) e' Gj ey
    ·intro h i hi
     simp only [Nat.testBit_or,acA,gI,decide_eq_true_eq] at hi
     rcases hi with rfl | hi
     ·exact h e (by simp) hb
     ·exact ih.2 (fun e' Gj ey=>h e' (aaK _ Gj) ey) i hi
   ·rename_i hb
    constructor
    ·intro h e' Gj ey
     rcases Xi.1 Gj with rfl | Gj
     ·exact absurd ey hb
     ·exact ih.1 h e' Gj ey
    ·intro h
     exact ih.2 (fun e' Gj ey=>h e' (aaK _ Gj) ey)
theorem nu {rs:List Nat} {i:Nat}:∀ {es:List Edge},(iN rs es).testBit i=true→∃ e∈es,Region.binds .any e=true∧e.on < rs.length∧(e.on=i∨(rs.getD e.on 0).testBit i=true)
 | [],h=>by simp [iN] at h
 | e::r,h=>by
   simp only [iN] at h
   split at h
   ·rename_i hb
    simp only [Nat.testBit_or,acA,gI,decide_eq_true_eq] at h
    rcases h with h | h
    ·exact ⟨e,by simp,hb.1,hb.2,h⟩
    ·obtain ⟨e',Gj,h'⟩:=nu h
     exact ⟨e',aaK _ Gj,h'⟩
   ·obtain ⟨e',Gj,h'⟩:=nu h
    exact ⟨e',aaK _ Gj,h'⟩
theorem xi:∀ (l:List Oper) (acc:List Nat),∃ r,fK l acc=acc++r∧r.length=l.length
 | [],acc=>⟨[],by simp [fK],rfl⟩
 | o::l,acc=>by
   obtain ⟨r,h1,h2⟩:=xi l (acc++[iN acc o.after.toList])
   exact ⟨iN acc o.after.toList::r,by simp [fK,h1],by simp [h2]⟩
theorem xj:∀ (l:List Oper) (acc:List Nat) (j:Nat) (o:Oper),l[j]?=some o→(fK l acc)[acc.length + j]?=some (iN ((fK l acc).take (acc.length + j)) o.after.toList)
 | [],acc,j,o,h=>by simp at h
 | x::l,acc,0,o,h=>by
   simp at h
   subst h
   simp only [fK]
   obtain ⟨r,h1,h2⟩:=xi l (acc++[iN acc x.after.toList])
   rw [h1]
   simp
 | x::l,acc,j + 1,o,h=>by
   have ih:=xj l (acc++[iN acc x.after.toList]) j o (by simpa using h)
   simp only [fK]
   simp only [aaj,List.length_cons,List.length_nil] at ih
   rw [show acc.length + (j + 1)=acc.length + (0 + 1) + j by omega]
   exact ih
theorem Gk {ops:Array Oper} {i:Nat}:∀ (j f:Nat),j < f→j < ops.size→((fK ops.toList []).getD j 0).testBit i=true→dC ops f j i=true:=by
 intro j
 induction j using Nat.strongRecOn with
 | _ j ih=>
   intro f hf hj h
   have Uf:ops[j]?=some ops[j]:=by simp [hj]
   have hg:=xj ops.toList [] j ops[j] (by simp [hj])
   simp only [List.length_nil,ach] at hg
   rw [tu,hg,Option.getD_some] at h
   obtain ⟨e,he,hb,aP,XM⟩:=nu h
   have oA:e.on < j:=by simp at aP;omega
   cases f with
   | zero=>omega
   | succ f=>
     simp only [dC,Uf]
     rw [Array.any_eq_true']
     refine ⟨e,by simpa using he,?_⟩
     simp only [zU,acA,beq_iff_eq]
     refine ⟨hb,?_⟩
     rcases XM with h1 | h1
     ·exact .inl h1
     ·refine .inr (ih e.on oA f (by omega) (by omega) ?_)
      have:((fK ops.toList []).take j).getD e.on 0=(fK ops.toList []).getD e.on 0:=by
       simp [tu,aaM,oA]
      rw [this] at h1
      exact h1
def bitsOf (n:Nat) (listed:Array Bool) (m:Nat):Prop:=listed.size=n∧∀ k,m.testBit k=listed.getD k false
theorem xk {n:Nat} {listed:Array Bool} {m i:Nat} (h:bitsOf n listed m) (hi:i < n):bitsOf n (listed.setIfInBounds i true) (m ||| (1 <<< i)):=by
 obtain ⟨h1,h2⟩:=h
 refine ⟨by simp [h1],fun k=>?_⟩
 rw [Nat.testBit_or,h2 k,gI]
 simp only [acd,adK]
 by_cases hk:i=k
 ·subst hk
  simp [h1,hi]
 ·simp [hk]
theorem xl {ops:Array Oper} {listed:Array Bool} {m:Nat} (hb:bitsOf ops.size listed m):∀ (l:List Oper) (i:Nat),(∀ j,l[j]?=ops[i + j]?)→
 ns m i (l.map fun o=>kQ o.after.toList)=(List.range' i l.length).filter fun i=>!listed.getD i true && ((ops[i]?).map (·.after.all fun e=>!Region.binds .any e || listed.getD e.on false)).getD false
 | [],i,_=>by simp [ns]
 | o::l,i,h=>by
   have h0:ops[i]?=some o:=by simpa using (h 0).symm
   have hi:i < ops.size:=(acn.1 h0).1
   have ih:=xl hb l (i + 1) (fun j=>by have:=h (j + 1);simpa [ado,afK 1 j] using this)
   simp only [List.map_cons,ns,List.length_cons,List.range'_succ,List.filter_cons]
   have e1:(m.testBit i=false)↔(listed.getD i true=false):=by
    rw [hb.2 i]
    have:i < listed.size:=by rw [hb.1];exact hi
    simp [Array.getD,this]
   have e2:(kQ o.after.toList &&& m=kQ o.after.toList)↔(o.after.all fun e=>!Region.binds .any e || listed.getD e.on false)=true:=by
    rw [Gi,Array.all_eq_true']
    simp only [Array.mem_toList_iff,acA,abX,hb.2]
    constructor
    ·intro h e he
     cases hbe:Region.binds .any e with
     | false=>exact .inl rfl
     | true=>exact .inr (h e he hbe)
    ·intro h e he hbe
     rcases h e he with h | h
     ·rw [hbe] at h;cases h
     ·exact h
   by_cases hc:m.testBit i=false∧kQ o.after.toList &&& m=kQ o.after.toList
   ·rw [if_pos hc,if_pos (by rw [h0];simp only [Option.map_some,Option.getD_some,e1.1 hc.1,e2.1 hc.2,Bool.not_false,acS]),ih]
   ·rw [if_neg hc,if_neg (by
     rw [h0]
     simp only [Option.map_some,Option.getD_some,zU,abX]
     intro h'
     exact hc ⟨e1.2 h'.1,e2.2 h'.2⟩),ih]
theorem tO {ops:Array Oper} {listed:Array Bool} {m:Nat} (hb:bitsOf ops.size listed m):ns m 0 (ops.toList.map fun o=>kQ o.after.toList)=Region.ready .any ops listed:=by
 rw [xl hb ops.toList 0 (by simp)]
 unfold Region.ready
 simp [List.range_eq_range']
theorem xm {ops:Array Oper} {il:List bH} {listed:Array Bool} {m i:Nat} {st:Bool} {oi:bH} (hb:bitsOf ops.size listed m):∀ (rs:List Nat) (os:List bH) (j:Nat),(∀ k,os[k]?=il[j + k]?)→(∀ k,rs[k]?=(fK ops.toList [])[j + k]?)→DG m i st oi j rs os=true→
 ∀ k,j≤k→k < ops.size→k < il.length→(k == i || listed.getD k true || dC ops ops.size k i || tN st oi (il.getD k default))=true
 | rs,[],j,h1,_,_,k,SK,_,hk=>by
   have:=h1 (k - j)
   rw [show j + (k - j)=k by omega] at this
   simp at this
   omega
 | [],o::os,j,h1,h2,h,_,_,_,_=>by simp [DG] at h
 | r::rs,o::os,j,h1,h2,h,k,SK,Gb,C8=>by
   simp only [DG,zU] at h
   by_cases hk:k=j
   ·subst hk
    have ho:il.getD k default=o:=by
     have:=h1 0
     simp at this
     rw [tu,← this];rfl
    have hr:(fK ops.toList []).getD k 0=r:=by
     have:=h2 0
     simp at this
     rw [tu,← this];rfl
    have h:=h.1
    simp only [acA] at h ⊢
    rcases h with ((h | h) | h) | h
    ·exact .inl (.inl (.inl h))
    ·refine .inl (.inl (.inr ?_))
     rw [hb.2 k] at h
     have:k < listed.size:=by rw [hb.1];exact Gb
     simpa [Array.getD,this] using h
    ·exact .inl (.inr (Gk k _ Gb Gb (by rw [hr];exact h)))
    ·rw [ho];exact .inr h
   ·exact xm hb rs os (j + 1) (fun q=>by have:=h1 (q + 1);simpa [ado,afK 1 q] using this) (fun q=>by have:=h2 (q + 1);simpa [ado,afK 1 q] using this) h.2 k (by omega) Gb C8
theorem sf {ops:Array Oper} {listed:Array Bool} {i:Nat} (h:i∈Region.ready .any ops listed):i < ops.size:=by
 unfold Region.ready at h
 simp at h
 exact h.1
theorem LL {ops:Array Oper} {il:List bH} (de:il.length=ops.size):∀ (p:yX) (f m:Nat) (listed:Array Bool) (rem:Option (List Nat)),bitsOf ops.size listed m→(∀ ks,rem=some ks→∀ k∈ks,k < ops.size)→
 mv (ops.toList.map fun o=>kQ o.after.toList) (fK ops.toList []) il f m rem p=true→vY ops il f listed rem p=true:=by
 intro p
 induction p with
 | done=>
   intro f m listed rem hb _ h
   cases rem with
   | none=>cases f <;> (simp only [mv,tO hb] at h;simpa [vY] using h)
   | some ks=>cases ks <;> cases f <;> simp [mv] at h
 | nil=>
   intro f m listed rem hb _ h
   cases rem with
   | none=>cases f <;> simp [mv] at h
   | some ks=>cases ks <;> cases f <;> simp [mv] at h <;> simp [vY]
 | take i st r ih=>
   intro f m listed rem hb _ h
   cases rem with
   | some ks=>cases ks <;> cases f <;> simp [mv] at h
   | none=>
     cases f with
     | zero=>simp [mv] at h
     | succ f=>
       simp only [mv,tO hb,zU] at h
       obtain ⟨⟨⟨h1,h2⟩,h3⟩,h4⟩:=h
       have hi:i < ops.size:=sf (by simpa using h1)
       simp only [vY,zU]
       refine ⟨⟨⟨h1,h2⟩,?_⟩,ih _ _ _ _ (xk hb hi) (by simp) h4⟩
       unfold oY
       refine aaO.2 fun k hk=>?_
       have Pd:k < ops.size:=acf.1 hk
       exact xm hb (fK ops.toList []) il 0 (fun k=>by rw [ach]) (fun k=>by rw [ach]) h3 k (acR _) Pd (by omega)
 | br i t rest LM Ie=>
   intro f m listed rem hb ade h
   cases f with
   | zero=>cases rem with
     | none=>simp [mv] at h
     | some ks=>cases ks <;> simp [mv] at h
   | succ f=>
     cases rem with
     | none=>
       simp only [mv,tO hb] at h
       simp only [vY]
       split at h
       ·rename_i k ks hr
        simp only [zU,beq_iff_eq] at h
        obtain ⟨⟨rfl,h1⟩,h2⟩:=h
        have hk:∀ q∈k::ks,q < ops.size:=fun q hq=>sf (by rw [hr];exact hq)
        simp only [zU,beq_iff_eq,true_and]
        exact ⟨LM _ _ _ _ (xk hb (hk k (by simp))) (by simp) h1,Ie _ _ _ _ hb (fun ks' e q hq=>by cases e;exact hk q (by simp [hq])) h2⟩
       ·cases h
     | some ks=>
       cases ks with
       | nil=>simp [mv] at h
       | cons k ks=>
         simp only [mv,zU,beq_iff_eq] at h
         obtain ⟨⟨rfl,h1⟩,h2⟩:=h
         have hk:=ade _ rfl
         simp only [vY,zU,beq_iff_eq,true_and]
         exact ⟨LM _ _ _ _ (xk hb (hk k (by simp))) (by simp) h1,Ie _ _ _ _ hb (fun ks' e q hq=>by cases e;exact hk q (by simp [hq])) h2⟩
theorem JH (n:Nat):bitsOf n (Array.replicate n false) 0:=⟨by simp,fun k=>by
 simp only [Nat.zero_testBit,acd,afL]
 split <;> rfl⟩
section
variable {ro:Option Nat} {P:Program} {lo:Option Nat} {A:Perm} {n:Nat} {M:Mem} {L:List Nat} {w:World} {H:List aa} {env:Env} {O:Pos→Option Nat} {a:Act} {ev:Nat→Value} {ea:Nat→AV}
def Gl (A:Perm) (n:Nat) (M0:Mem) (L0:List Nat) (w0:World) (Q:Exit→Env→List aa→Prop) (e:Exit) (a:Act) (w:World):Prop:=
 ∃ A' M L H env O,A'.Le A∧Q e env H∧Fr A' n M L w H env O a∧Ext A M0 w0 M w∧L0 <+: L
theorem Fr.Gm (h:Fr A n M L w H env O a) {aK:Env} (he:get aK=get env):Fr A n M L w H aK O a:=⟨by rw [he];exact h.st,h.size,h.defers⟩
theorem Fr.weaken (h:Fr A n M L w H env O a) {aK:Env} (hl:∀ t,(get env t).le (get aK t)):∃ O',Fr A n M L w H aK O' a:=by
 obtain ⟨O',h'⟩:=h.st.weaken hl
 exact ⟨O',h',h.size,h.defers⟩
theorem le_refl (x:AV):x.le x:=.inl rfl
theorem Ug (x:AV):x.le .any:=.inr (.inl rfl)
theorem Ab (live:Option (List Nat)) (env:Env) (t:Nat):(get env t).le (get (fa live env) t):=by
 cases live with
 | none=>exact le_refl _
 | some l=>
   simp only [fa]
   induction l with
   | nil=>exact Ug _
   | cons s l ih=>
     simp only [List.map_cons,get]
     split
     ·rename_i e;subst e;exact le_refl _
     ·exact ih
theorem get_mem {env:Env} {t:Nat} {x:AV} (h:get env t=x):x=.any∨(t,x)∈env:=by
 induction env with
 | nil=>left;exact h.symm
 | cons p r ih=>
   obtain ⟨k,v⟩:=p
   simp only [get] at h
   split at h
   ·rename_i e;subst e;subst h;right;simp
   ·rcases ih h with h' | h'
    ·exact .inl h'
    ·exact .inr (aaK _ h')
theorem aA (n0:Nat) (env:Env) (H:List aa):sle n0 env H env H:=⟨fun t=>le_refl _,.inl rfl⟩
def gg (lo:Option Nat) (n0:Nat) (A:Perm):Prop:=(∀ id,id < n0→∃ m,m≤n0∧A.top id=some m)∧match lo with
 | none=>∀ id,n0≤id→A.top id=some (id + 1)
 | some l=>l=n0∧∀ id,n0≤id→A.top id=none
theorem gg.opens {n0:Nat} (h:gg lo n0 A):∀ l,lo=some l→∀ id,l≤id→A.top id=none:=by
 rintro l rfl id bn
 obtain ⟨_,rfl,h⟩:=h
 exact h id bn
theorem gg.low {n0 m:Nat} (h:gg lo n0 A) (hm:n0≤m) (hs:St A M L w H ev ea O):∀ id o,id < n0→H[id]?=some o→o.bb m=true:=by
 intro id o bn ho
 obtain ⟨k,hk,e⟩:=h.1 id bn
 have:=hs.bG id o ho
 refine aa.cH ?_ o this
 unfold Perm.jb
 rw [e]
 exact acv (afr _ _) (by omega)
theorem gg.closed {n0 m:Nat} (h:gg none n0 A) (hm:n0≤m) (hs:St A M L w H ev ea O):∀ id o,id < m→H[id]?=some o→o.bb m=true:=by
 intro id o bn ho
 by_cases e:id < n0
 ·exact h.low hm hs id o e ho
 ·have e1:=h.2 id (by omega)
  have:=hs.bG id o ho
  refine aa.cH ?_ o this
  unfold Perm.jb
  rw [e1]
  exact acv (afr _ _) (by omega)
theorem Fr.sle (h:Fr A n M L w H env O a) {aK:Env} {H':List aa} {L0:List Nat} (hA:gg lo L0.length A) (hL:L0 <+: L) (hl:JG lo L0.length env H aK H'):∃ L' O',Fr A n M L' w H' aK O' a∧L0 <+: L':=by
 have xn:JF L0.length env H aK H':=by
  unfold JG at hl
  split at hl
  ·obtain ⟨h1,h2⟩:=hl
   refine ⟨h1,?_⟩
   rcases h2 with rfl | ⟨m,hm,rfl,hb⟩
   ·exact .inl rfl
   ·exact .inr ⟨m,hm,rfl,fun id o _ bn ho=>hA.closed hm h.st id o bn ho,hb⟩
  ·exact hl
 obtain ⟨h1,h2⟩:=xn
 obtain ⟨O',hf⟩:=h.weaken h1
 rcases h2 with rfl | ⟨m,hm,rfl,hc,hb⟩
 ·exact ⟨L,O',hf,hL⟩
 ·obtain ⟨O'',bV⟩:=hf.st.cut m (fun id o bn ho=>by
   by_cases e:id < L0.length
   ·exact hA.low hm hf.st id o e ho
   ·exact hc id o (by omega) bn ho) hb
  refine ⟨L.take m,O'',⟨bV,hf.size,hf.defers⟩,?_⟩
  obtain ⟨r,rfl⟩:=hL
  exact ⟨r.take (m - L0.length),by rw [aga,aaJ hm]⟩
theorem BG {ops:Array Oper} {j g:Nat} (hg:(ops[j]?).bind (·.dst)=some g) (hf:Fr A n M L w H env O a) {b:Bool} (hb:get env g=.bool b):yielded ops a.tmps j=some b:=by
 have hr:=hf.st.env g
 rw [hb] at hr
 generalize hv:a.tmps.getD g undef=v at hr
 cases hr
 have:a.tmps[g]?=some (.bool b):=by
  rw [acd] at hv
  cases h:a.tmps[g]? with
  | none=>rw [h] at hv;cases hv
  | some v=>rw [h] at hv;simp at hv;rw [hv]
 simp [yielded,hg,this]
theorem zj {ops:Array Oper} {j g:Nat} (hg:(ops[j]?).bind (·.dst)=some g) (hf:Fr A n M L w H env O a) (hb:get env g=.tuple []):yielded ops a.tmps j=none:=by
 have hr:=hf.st.env g
 rw [hb] at hr
 generalize hv:a.tmps.getD g undef=v at hr
 cases hr with
 | tuple cs _ h=>
 rw [acd] at hv
 simp only [yielded,hg,Option.bind_some]
 cases h:a.tmps[g]? with
 | none=>rfl
 | some v=>rw [h] at hv;simp at hv;rw [hv]
theorem Ac {ops:Array Oper} {o:Oper} {fl:Nat} {g:Option (Nat×Bool)} (hg:Ib ops o=some g) (gV:Ia n o=true) (hp:∀ l,lo=some l→∀ id,l≤id→A.top id=none) (hf:Fr A n M L w H env O a) {K:Env→List aa→Prop} (h:tM ⟨P,lo⟩ ⟨g,o.dst,DD P o fl⟩ env H K) (Q:Exit→Act→World→Prop) :
 if Region.wanted o (yielded ops a.tmps) then o.wpIn (wf ro) 0 P a w (ow A n M L w K) Q else ow A n M L w K (a.put o.dst undef) w:=by
 simp only [Ia,zU] at gV
 have hd:∀ d,o.dst=some d→d < n:=by
  intro d hd
  have:=gV.1
  rw [hd] at this
  simpa using this
 have hn:(match o.op with | .store .. | .mapUpdate ..=>o.dst=none | _=>True):=by
  have:=gV.2
  split at this <;> first | trivial | skip
  ·simpa using this
  ·simpa using this
 unfold Ib at hg
 split at hg
 ·rename_i OQ
  cases hg
  rw [if_pos (by simp [Region.wanted,OQ])]
  exact uZ o hp hf hd hn h
 ·rename_i j want OQ
  split at hg <;> cases hg
  rename_i g hgj
  simp only [tM,jo] at h
  split at h
  rotate_left
  ·rename_i hb
   have hy:=zj hgj hf hb
   rw [if_neg (by simp [Region.wanted,OQ,hy])]
   obtain ⟨O',qn⟩:=hf.oK (dst:=o.dst) (v:=undef) (x:=.tuple []) hd (.tuple [] [] .nil) (by intro _ _ e;cases e)
   exact ⟨M,L,H,_,O',h,qn,Ext.refl A M w,aaG L⟩
  ·exact h.elim
  rename_i b hb
  have hy:=BG hgj hf hb
  have X3:get ((g,AV.bool b)::env)=get env:=by
   rw [Lp];funext t;simp only [fZ];split
   ·rename_i e;rw [e,hb]
   ·rfl
  by_cases hw:b=want
  ·subst hw
   rw [if_pos (by simp [Region.wanted,OQ,hy])]
   exact uZ o hp (hf.Gm X3) hd hn (h.1 rfl)
  ·have Ig:b=!want:=by cases b <;> cases want <;> simp_all
   subst Ig
   rw [if_neg (by simp [Region.wanted,OQ,hy])]
   obtain ⟨O',qn⟩:=(hf.Gm X3).oK (dst:=o.dst) (v:=undef) (x:=.tuple []) hd (.tuple [] [] .nil) (by intro _ _ e;cases e)
   exact ⟨M,L,H,_,O',h.2 rfl,qn,Ext.refl A M w,aaG L⟩
theorem ow.trans {K K':Env→List aa→Prop} {M':Mem} {L':List Nat} {w':World} {a':Act} {w'':World} (cJ:Ext A M w M' w') (hL:L <+: L') (h:ow A n M' L' w' K a' w''):ow A n M L w K a' w'':=by
 obtain ⟨M2,L2,H2,cZ,O2,h1,h2,h3,h4⟩:=h
 exact ⟨M2,L2,H2,cZ,O2,h1,h2,cJ.trans h3,hL.trans h4⟩
theorem DH (w:World) (c c':Array Value) (e:TypeId):({ w with heap:=w.heap.push (.cells c e) }:World).setRow w.heap.size c'={ w with heap:=w.heap.push (.cells c' e) }:=by
 simp only [World.setRow]
 congr 1
 apply Array.ext
 ·simp
 ·intro i h1 h2
  rw [agu]
  by_cases hi:w.heap.size=i
  ·subst hi;simp
  ·simp only [hi,if_false]
   have:i < w.heap.size:=by simp at h2;omega
   rw [aeD this,aeD this]
theorem Gn {ops:Array Oper} {o o':Oper} {x:bH} (hx:Ud P ops n 2 o o'=some x) (hf:Fr A n M L w H env O a) {K:Env→List aa→Prop} (h:tM ⟨P,lo⟩ x env H K) (r:List Oper) (Q:Exit→Act→World→Prop)
 (hrest:∀ a' w',ow A n M L w K a' w'→wpListIn (wf ro) 0 P ops Q r a' w'):wpListIn (wf ro) 0 P ops Q (o::o'::r) a w:=by
 unfold Ud at hx
 split at hx <;> try cases hx
 rename_i e d t d' y _ cW gV OQ adf X4 adg
 split at hx <;> try cases hx
 rename_i hcond
 obtain ⟨rfl,XX,rfl⟩:=hcond
 split at hx <;> try cases hx
 rename_i i m z hi hm hz
 split at hx <;> cases hx
 rename_i hcond
 obtain ⟨dP,gS,qv,Dr⟩:=hcond
 simp only [tM,bD] at h
 obtain ⟨qm,jQ,lP,hK⟩:=h
 have hr:=hf.eval hi
 have Pk:=hr.gR qm
 have rL:=Pk.length
 -- the zero value
 obtain ⟨inf,iK,de⟩:=zW.1 hm
 unfold gb at hz
 simp only [iK] at hz
 split at hz <;> try cases hz
 rename_i zv tH
 have wi:zv.cells.size=m:=by have:=((cQ (M:=M) (L:=L) hz).gR qv).length;rw [gS] at this;simpa using this
 have hrun1:(execOp a.eval o).run P w=.ok (.value (.pointer (some ⟨w.heap.size,0,none⟩))) { w with heap:=w.heap.push (.cells zv.cells t) }:=by
  simp only [execOp,cW]
  exact bc (by simp only [Instr.alloc,zeroValue,typeInfo,Sem.run_bind,run_program,Result.andThen_ok,iK,Sem.run_pure,tH];rfl)
 have hsize:d < a.tmps.size:=by rw [hf.size];exact XX
 have T7:(a.put (some d) (.pointer (some ⟨w.heap.size,0,none⟩))).eval (.tmp d)=.pointer (some ⟨w.heap.size,0,none⟩):=by
  show (a.put (some d) _).tmps.getD d undef=_
  rw [wT a d _ hsize d];simp [fZ]
 have adh:(a.put (some d) (.pointer (some ⟨w.heap.size,0,none⟩))).eval y=a.eval y:=by
  cases y with
  | tmp s=>
    simp [aW] at hi;subst hi
    simp [Ic] at dP
    show (a.put (some d) _).tmps.getD s undef=a.tmps.getD s undef
    rw [wT a d _ hsize s];simp [fZ,dP]
  | _=>rfl
 have bV:=run_storeCells_at P w.heap.size 0 t (a.eval y).cells.toList 0 zv.cells { w with heap:=w.heap.push (.cells zv.cells t) } (dX w _) (by simp at rL ⊢;omega) (Pk.iH lP)
 have hwhole:(zv.cells.toList.take (0 + 0)++(a.eval y).cells.toList++zv.cells.toList.drop (0 + 0 + (a.eval y).cells.toList.length)).toArray=(a.eval y).cells:=by
  have:zv.cells.toList.drop (0 + 0 + (a.eval y).cells.toList.length)=[]:=afT (by simp at rL ⊢;omega)
  rw [this];simp
 rw [hwhole,DH] at bV
 have hrun2:(execOp (a.put (some d) (.pointer (some ⟨w.heap.size,0,none⟩))).eval o').run P { w with heap:=w.heap.push (.cells zv.cells t) }=.ok .skip { w with heap:=w.heap.push (.cells (a.eval y).cells t) }:=by
  simp only [execOp,adf,T7,adh]
  refine rX ?_
  have hs:(sizeOf t).run P { w with heap:=w.heap.push (.cells zv.cells t) }=.ok m { w with heap:=w.heap.push (.cells zv.cells t) }:=by simp [sizeOf,typeInfo,iK,de]
  simp only [Instr.storeAt,Instr.sureAddr,storeVar,Sem.run_bind,Sem.run_pure,Result.andThen_ok,hs,ne_eq]
  rw [if_neg (by simp at rL;omega)]
  exact bV
 obtain ⟨g1,g2,g3⟩:=hf.st.FV (a.eval y).cells t
 have gr:aZ (M.add w.heap.size (a.eval y).cells.toList) L (.pointer (some ⟨w.heap.size,0,none⟩)) (.ai (au env i)):=.ai _ _ _ _ (Pk.mono g2.mh (aaG _)) g3
 obtain ⟨O',qn⟩:=(hf.mono g1 g2).oK (dst:=some d) (fun d' e=>by cases e;exact XX) gr (by intro _ _ e;cases e)
 have mw:=hrest _ _ ⟨_,L,H,_,O',hK,qn,g2,aaG L⟩
 unfold wpListIn
 rw [if_pos (by simp [Region.wanted,OQ])]
 refine mi hrun1 (by intro d e;cases e) ?_
 rw [Oper.uponIn_value,gV]
 unfold wpListIn
 rw [if_pos (by simp [Region.wanted,adg])]
 refine mi hrun2 (by intro d e;cases e) ?_
 rw [Oper.uponIn_skip,X4]
 exact mw
theorem qU {ops:Array Oper} {an:C7} {rid:Nat} {fu:Bool} (hp:∀ l,lo=some l→∀ id,l≤id→A.top id=none) (Q:Exit→Act→World→Prop):∀ (fuel k:Nat) (l:List Oper) (il:List bH),fq P ops an n rid fu fuel k l=some il→∀ {M:Mem} {L:List Nat} {w:World} {H:List aa} {env:Env} {O:Pos→Option Nat} {a:Act} (K:Env→List aa→Prop),
 Fr A n M L w H env O a→ku ⟨P,lo⟩ il env H K→(∀ a' w',ow A n M L w K a' w'→Q .normal a' w')→wpListIn (wf ro) 0 P ops Q l a w
 | _,_,[],il,hc,M,L,w,H,env,O,a,K,hf,h,hQ=>by
   unfold fq at hc
   cases hc
   exact hQ a w ⟨M,L,H,env,O,h,hf,Ext.refl A M w,aaG L⟩
 | 0,_,o::r,il,hc,_,_,_,_,_,_,_,_,_,_,_=>by simp [fq] at hc
 | fuel + 1,k,o::r,il,hc,M,L,w,H,env,O,a,K,hf,h,hQ=>by
   unfold fq at hc
   split at hc
   ·-- a new variable with its first value
    split at hc <;> try cases hc
    rename_i o' r'
    split at hc <;> cases hc
    rename_i x xs hx eR
    simp only [ku] at h
    refine Gn hx hf h r' Q ?_
    rintro a' w' ⟨M',L',H',aK,O',k1,k2,k3,k4⟩
    exact qU hp Q fuel (k + 2) r' xs eR K k2 k1 (fun a2 w2 h2=>hQ a2 w2 (ow.trans (K':=K) k3 k4 h2))
   ·split at hc <;> try cases hc
    rename_i g xs hg eR
    split at hc <;> cases hc
    rename_i gV
    simp only [ku] at h
    have h1:=Ac (ro:=ro) (ops:=ops) hg gV hp hf h Q
    have hrest:∀ a' w',ow A n M L w (fun env H=>ku ⟨P,lo⟩ xs env H K) a' w'→wpListIn (wf ro) 0 P ops Q r a' w':=by
     rintro a' w' ⟨M',L',H',aK,O',k1,k2,k3,k4⟩
     exact qU hp Q fuel (k + 1) r xs eR K k2 k1 (fun a2 w2 h2=>hQ a2 w2 (ow.trans (K':=K) k3 k4 h2))
    unfold wpListIn
    split
    ·rename_i hw
     rw [if_pos hw] at h1
     exact Oper.wpIn_mono hrest h1
    ·rename_i hw
     rw [if_neg hw] at h1
     exact ⟨fun _ _=>trivial,hrest _ _ h1⟩
theorem Gl.trans {A':Perm} {M0 M1:Mem} {L0:List Nat} {w0 w1:World} {Q:Exit→Env→List aa→Prop} {e:Exit} {a:Act} {w:World} (hl:A'.Le A) (hx:Ext A M0 w0 M1 w1) (hp:Gl A' n M1 L0 w1 Q e a w):Gl A n M0 L0 w0 Q e a w:=by
 obtain ⟨A2,M,L,H,env,O,hA,h1,h2,h3,h4⟩:=hp
 exact ⟨A2,M,L,H,env,O,hA.trans hl,h1,h2,hx.trans (h3.le hl),h4⟩
theorem gg.le {n0:Nat} {A':Perm} (h:gg lo n0 A) (hl:A'.Le A):gg lo n0 A':=by
 unfold gg at *
 rw [hl.1]
 exact h
def Own (ro:Option Nat) (w:World):Prop:=∀ l,ro=some l→∃ r,w.heap[l]?=some (.loop r)
theorem Own.ext {M':Mem} {w':World} (h:Own ro w) (hx:Ext A M w M' w'):Own ro w':=fun l hl=>by
 obtain ⟨r,hr⟩:=h l hl
 obtain ⟨r',hr',_⟩:=hx.loops l r hr
 exact ⟨r',hr'⟩
theorem JI (p:Nat→Prop) (h:∃ k,p k):∃ k,p k∧∀ j,p j→k≤j:=by
 obtain ⟨k,hk⟩:=h
 induction k using Nat.strongRecOn with
 | _ k ih=>
   by_cases hl:∃ j,j < k∧p j
   ·obtain ⟨j,hj,hp⟩:=hl
    exact ih j hj hp
   ·exact ⟨k,hk,fun j hj=>by
     rcases afs j k with h' | h'
     ·exact absurd ⟨j,h',hj⟩ hl
     ·exact h'⟩
theorem BH {F:Fence} {k:Nat} {c:Code} {Q:Exit→Act→World→Prop} {w:World} {a:Act} {ι:Type} (I:ι→Act→World→Prop) (μ:ι→Nat)
 (round:∀ i a w,I i a w→c.wpIn F k P (Exit.then (fun a' w'=>∃ j,I j a' w'∧μ j < μ i) Q) a w) (i0:ι) (h0:I i0 a w):(Code.loop c).wpIn F k P Q a w:=by
 let p:Act→World→Nat→Prop:=fun a w k=>∃ i,I i a w∧μ i=k
 let ν:Act→World→Nat:=fun a w=>Classical.epsilon fun k=>p a w k∧∀ j,p a w j→k≤j
 have hν:∀ a w,(∃ i,I i a w)→p a w (ν a w)∧∀ j,p a w j→ν a w≤j:=by
  rintro a w ⟨i,hi⟩
  exact Classical.epsilon_spec (JI (p a w) ⟨μ i,i,hi,rfl⟩)
 refine wpIn_loop (fun a w=>∃ i,I i a w) ν ⟨i0,h0⟩ ?_
 intro a w hI
 obtain ⟨⟨i,hi,hμ⟩,_⟩:=hν a w hI
 refine Go.wpIn_mono (round i a w hi) ?_
 intro e a' w' h
 cases e with
 | normal=>
   obtain ⟨j,hj,aP⟩:=h
   refine ⟨⟨j,hj⟩,?_⟩
   have:=(hν a' w' ⟨j,hj⟩).2 (μ j) ⟨j,hj,rfl⟩
   omega
 | _=>exact h
def Ad (P:Program) (ro lo:Option Nat) (A:Perm) (n:Nat) (L0:List Nat):Prop:=
 ∀ {id:Nat} {ops:Array Oper} {il:List bH} {p:yX} {live:Option (List Nat)} {an:C7} {M:Mem} {L:List Nat} {w:World} {H:List aa} {env:Env} {O:Pos→Option Nat} {a:Act} {M0:Mem} {w0:World} {Q:Exit→Env→List aa→Prop},
  P.follows .mixedOrders=true→mv (ops.toList.map fun o=>kQ o.after.toList) (fK ops.toList []) il ops.size 0 none p=true→fq P ops an n id false (ops.size + 1) 0 ops.toList=some il→mX ⟨P,lo⟩ L0.length (.draw (inst il p) live) env H Q→Fr A n M L w H env O a→Ext A M0 w0 M w→L0 <+: L→(Code.region id ops true).wpIn (wf ro) 0 P (Gl A n M0 L0 w0 Q) a w
theorem DI {L0:List Nat} (hA:gg lo L0.length A) {f:Operand} {ps:Array Tmp} {as bd:Code} {an:C7} {lv:mf} {pl:mg} {i:IX} (hi:aW f=some i) {Q:Exit→Env→List aa→Prop}
 (yV:Own ro w) (h:mX ⟨P,lo⟩ L0.length (.jW i ⟨n,ps.toList,as,bd,an,lv,pl⟩) env H Q) (hf:Fr A n M L w H env O a) (hL:L0 <+: L):(Code.rangeFunc f ps as bd).wpIn (wf ro) 0 P (Gl A n M L0 w Q) a w:=by
 have OP:=hf.eval hi
 simp only [mX] at h
 split at h <;> try exact h.elim
 rename_i g first cap X0
 obtain ⟨hcf,bX,hle,hcall⟩:=h
 rw [X0] at OP
 generalize hu:a.eval f=u at OP
 cases OP with
 | fn _ fs cs _ _ BD tJ=>
 refine wpIn_rangeFunc fun fn _=>?_
 -- the record
 have enter:∃ (l:Nat) (mark:List Deferred) (w1:World) (A1:Perm),(Instr.enterLoop fn a.tmps ps as bd ro).run P w=.ok (l,mark) w1∧A1.Le A∧
  Fr A1 n M (L++[l]) w1 (H++[.loop .ready ⟨n,ps.toList,as,bd,an,lv,pl⟩ (lV n env)]) env O { a with defers:=mark++a.defers }∧Ext A M w M w1:=by
  have Bv:aN M L a.tmps.toList (lV n env):=by
   refine aN.Bf (by simp [lV,hf.size]) fun j x hx=>?_
   simp only [lV,acu] at hx
   obtain ⟨t,ht,rfl⟩:=zW.1 hx
   obtain ⟨rK,rfl⟩:=aa0.1 ht
   simp only [List.length_range] at rK
   simp only [List.getElem_range]
   have:=(hf.st.env j).ab
   refine ⟨a.tmps.getD j undef,?_,this⟩
   rw [acd,ad1,ad7 (by rw [hf.size];exact rK)]
   rfl
  have mV:(aa.loop .ready ⟨n,ps.toList,as,bd,an,lv,pl⟩ (lV n env)).bb (H.length + 1)=true:=by
   simp only [aa.bb]
   have:=Bv.Pw
   rw [hf.st.len] at this
   exact bF (by omega) _ this
  cases ro with
  | none=>
    have hg:=hf.st.grow (w':={ w with heap:=w.heap.push (.deferred (some [])) }) (Mem.bW M) (fun b o v hv=>by
     have h1:=hf.st.mem b o v hv
     simp only [World.cell?] at h1 ⊢
     cases hb:w.heap[b]? with
     | none=>rw [hb] at h1;simp at h1
     | some ob=>rw [eU w _ (acn.1 hb).1];exact h1) (by simp) (fun b hb=>eU w _ hb) (fun _ _ _=>rfl)
    have vf:Ext A M w M { w with heap:=w.heap.push (.deferred (some [])) }:=Ext.grow (Mem.bW M) (by simp) rfl rfl rfl (fun b hb=>eU w _ hb) (fun _ _ _=>rfl)
    have hb:=hg.X2 (D:=w.heap.size) (fun hm=>by have:=hf.st.lt _ hm;omega) (fun p hp=>by have:=hf.st.fP _ _ hp;omega) (by simp)
    obtain ⟨g1,g2⟩:=hb.tB (.loop { state:=.ready,pending:=none,fn,tmps:=a.tmps,params:=ps,assign:=as,body:=bd,defers:=w.heap.size }) (.loop .ready ⟨n,ps.toList,as,bd,an,lv,pl⟩ (lV n env))
     (fun w' Lz _=>⟨_,Lz,(agt).symm,rfl,rfl,Bv.mono (Mem.bW M) ⟨_,rfl⟩,rfl,rfl⟩) mV (fun j=>rfl)
    refine ⟨w.heap.size + 1,_,_,A.X2 w.heap.size,run_enterLoop_outer _ _ _ _ _,A.BF _,⟨?_,hf.size,?_⟩,?_⟩
    ·have e1:({ w with heap:=w.heap.push (.deferred (some [])) }:World).heap.size=w.heap.size + 1:=by simp
     rw [e1] at g1
     exact g1
    ·have old:=((hf.defers.ext vf).le (A.BF w.heap.size)).ext g2
     refine ⟨old.1,?_,fun d hd=>?_⟩
     ·show (_::a.defers).Nodup
      rw [List.nodup_cons]
      refine ⟨fun hm=>?_,old.2.1⟩
      obtain ⟨D,e,hD,_⟩:=hf.defers.2.2 _ hm
      cases e
      have:=(acn.1 hD).1
      omega
     rcases abZ.1 hd with hd | hd
     ·rw [aat] at hd
      subst hd
      refine ⟨w.heap.size,rfl,?_,(fun h=>h.2 rfl),(show A.base≤w.heap.size from hf.defers.1)⟩
      show ((w.heap.push _).push _)[w.heap.size]?=_
      rw [Array.getElem?_push_lt (by simp)]
      simp
     ·exact old.2.2 d hd
    ·exact vf.trans (g2.le (A.BF _))
  | some l0=>
    obtain ⟨r0,hr0⟩:=yV l0 rfl
    obtain ⟨g1,g2⟩:=hf.st.tB (.loop { state:=.ready,pending:=none,fn,tmps:=a.tmps,params:=ps,assign:=as,body:=bd,defers:=r0.defers }) (.loop .ready ⟨n,ps.toList,as,bd,an,lv,pl⟩ (lV n env))
     (fun w' Lz _=>⟨_,Lz,(agt).symm,rfl,rfl,Bv.mono (Mem.bW M) ⟨_,rfl⟩,rfl,rfl⟩) mV (fun j=>rfl)
    exact ⟨w.heap.size,[],_,A,run_enterLoop_inner hr0 _ _ _ _ _,Perm.Le.refl A,⟨g1,hf.size,by simpa using hf.defers.ext g2⟩,g2⟩
 obtain ⟨l,mark,w1,A1,he,Gp,FO,vf⟩:=enter
 have JJ:L.length=H.length:=hf.st.len
 have vZ:(L++[l])[H.length]?=some l:=by rw [← JJ];simp
 have Uh:gg lo L0.length A1:=hA.le Gp
 obtain ⟨loose,vQ,hcall⟩:∃ loose:Bool,(loose=true→∀ id,(H++[aa.loop .ready ⟨n,ps.toList,as,bd,an,lv,pl⟩ (lV n env)]).length≤id→A1.top id=none)∧
  lT loose P g bX (H++[.loop .ready ⟨n,ps.toList,as,bd,an,lv,pl⟩ (lV n env)]) fun _ H'=>behind H.length H' fun j H''=>qT j Q env H'':=by
  unfold dG at hcall
  split at hcall
  ·exact ⟨false,by simp,hcall⟩
  ·rename_i l' xn
   rcases hcall with hcall | ⟨h1,hcall⟩
   ·exact ⟨false,by simp,hcall⟩
   ·exact ⟨true,fun _ id bn=>Uh.opens l' xn id (by omega),hcall⟩
 have hry:aN M (L++[l]) (fs++[.func (.yield l) #[] #[]]) (first++[.oJ H.length]):=
  (BD.mono (Mem.bW M) ⟨_,rfl⟩).append (.one (.oJ l _ vZ))
 obtain ⟨Oc,rL,bV,fin⟩:=tL (o:=(⟨none,.move f,0, "",#[],none⟩:Oper)) (K:=fun aK H'=>aK=env∧behind H.length H' fun j H''=>qT j Q env H'') (xs:=[]) (js:=[]) rfl (pass:=none) hry (tJ.mono (Mem.bW M) ⟨[l],rfl⟩)
  (by simpa [aL,AV.ab] using hle) FO (fun d e=>by cases e) vQ
 obtain ⟨vs,wY⟩:∃ vs:List Value,vs=fs++[.func (.yield l) #[] #[]]++cs:=⟨_,rfl⟩
 simp only [List.map_nil,ack] at rL bV
 rw [← wY] at rL bV
 refine ⟨l,mark,w1,{ target:=.fn (.func g) cs.toArray,args:=fs.toArray++#[.func (.yield l) #[] #[]] },w1,g,vs.toArray,w1,he,?_,fun _ _=>trivial,?_,(fun h=>by cases h),?_⟩
 ·have ec:a.eval (.const (.func (.yield l) #[] #[]))=.func (.yield l) #[] #[]:=rfl
  simp [resolve,hu,Deferred.ofValue,ec]
 ·have e1:(fs.toArray++#[.func (.yield l) #[] #[]]++cs.toArray:Array Value)=vs.toArray:=by
   apply Array.ext';simp [wY]
  simp only [invoke]
  rw [e1]
  exact hcf _ _
 ·rcases hcall (dJ A1 loose (H++[aa.loop .ready ⟨n,ps.toList,as,bd,an,lv,pl⟩ (lV n env)]) (L++[l]) Oc w1) M (L++[l]) w1 vs.toArray Oc (lU A1 loose _ _ Oc w1) (by simpa using rL) bV with ⟨_,hc⟩ | ⟨v,w',r,H',M',L',O',h1,_⟩
  ·have ni:CallsIn (wf ro) (0 - 1) P g vs.toArray w1 _:=callsIn_wide.2 hc
   refine CallsIn.mono ni fun e w' he=>?_
   obtain ⟨v,r,H',M',L',O',rfl,hK,nj,cJ,X5⟩:=he
   obtain ⟨M2,L2,H2,cZ,O2,⟨rfl,hb⟩,uX,SM,Ui⟩:=fin v r H' M' L' O' w' ⟨rfl,hK⟩ nj cJ X5
   have mW:L2[H.length]?=some l:=gO Ui vZ
   have mZ:L0 <+: L2:=hL.trans ((List.prefix_append L [l]).trans Ui)
   unfold behind at hb
   split at hb
   ·rename_i lc es Gq
    obtain ⟨r,q1,q2,q3,q4,q5,q6⟩:=uX.st.obj _ _ l Gq mW
    obtain ⟨k1,k2⟩:=uX.st.pK (st':=.fh) (r':={ r with state:=.exhausted }) Gq mW (fun r2 tJ=>by rw [q1] at tJ;cases tJ;exact ⟨rfl,rfl,rfl,rfl,rfl,trivial⟩)
    exact ⟨none,_,(run_endLoop q1 (by rw [q6.1];simp)).trans (congrArg (fun p=>Result.ok p _) q6.2),A1,M2,L2,_,cZ,O2,Gp,hb,⟨k1,uX.size,uX.defers.ext k2⟩,vf.trans ((SM.trans k2).le Gp),mZ⟩
   ·rename_i c lc es Gq
    obtain ⟨r,q1,q2,q3,q4,q5,q6⟩:=uX.st.obj _ _ l Gq mW
    obtain ⟨k1,k2⟩:=uX.st.pK (st':=.fh) (r':={ r with state:=.exhausted }) Gq mW (fun r2 tJ=>by rw [q1] at tJ;cases tJ;exact ⟨rfl,rfl,rfl,rfl,rfl,trivial⟩)
    refine ⟨some c,_,(run_endLoop q1 (by rw [q6.1];simp)).trans (congrArg (fun p=>Result.ok p _) q6.2),?_⟩
    unfold qT at hb
    split at hb
    ·rename_i e;cases e
    ·rename_i e;cases e
     exact wpIn_ret ⟨A1,M2,L2,_,cZ,O2,Gp,hb,⟨k1,uX.size,uX.defers.ext k2⟩,vf.trans ((SM.trans k2).le Gp),mZ⟩
    ·rename_i e;cases e
     exact wpIn_exit ⟨A1,M2,L2,_,cZ,O2,Gp,hb,⟨k1,uX.size,uX.defers.ext k2⟩,vf.trans ((SM.trans k2).le Gp),mZ⟩
    ·exact hb.elim
   ·exact hb.elim
  ·rw [hcf] at h1;cases h1
theorem sound {L0:List Nat} (hdraw:∀ A,gg lo L0.length A→Ad P ro lo A n L0) {an:C7} {lv:mf} {pl:mg}:∀ (c:Code) (ir:IR),comp P an lv pl n c=some ir→∀ {A:Perm} {M:Mem} {L:List Nat} {w:World} {H:List aa} {env:Env} {O:Pos→Option Nat} {a:Act} {Q:Exit→Env→List aa→Prop},
 gg lo L0.length A→Own ro w→mX ⟨P,lo⟩ L0.length ir env H Q→Fr A n M L w H env O a→L0 <+: L→c.wpIn (wf ro) 0 P (Gl A n M L0 w Q) a w:=by
 intro c
 induction c with
 | skip=>
   intro ir hc A M L w H env O a Q hA yV h hf hL
   simp only [comp] at hc;cases hc
   exact wpIn_skip ⟨A,M,L,H,env,O,.refl A,h,hf,Ext.refl A M w,hL⟩
 | exit id=>
   intro ir hc A M L w H env O a Q hA yV h hf hL
   simp only [comp] at hc;cases hc
   exact wpIn_exit ⟨A,M,L,H,env,O,.refl A,h,hf,Ext.refl A M w,hL⟩
 | ret=>
   intro ir hc A M L w H env O a Q hA yV h hf hL
   simp only [comp] at hc;cases hc
   exact wpIn_ret ⟨A,M,L,H,env,O,.refl A,h,hf,Ext.refl A M w,hL⟩
 | region id ops draw=>
   intro ir hc A M L w H env O a Q hA yV h hf hL
   cases draw with
   | true=>
     simp only [comp] at hc
     split at hc <;> try cases hc
     rename_i il y7
     split at hc <;> cases hc
     rename_i hm
     exact hdraw A hA hm.1 hm.2 y7 h hf (Ext.refl A M w) hL
   | false=>
     simp only [comp] at hc
     obtain ⟨il,y7,rfl⟩:=zW.1 hc
     simp only [mX] at h
     refine wpIn_region_list (qU hA.opens _ _ _ _ _ y7 _ hf h ?_)
     rintro a' w' ⟨M',L',H',aK,O',h1,h2,h3,h4⟩
     obtain ⟨O'',h5⟩:=h2.weaken (Ab (lv.at_ id) aK)
     exact ⟨A,M',L',H',_,O'',.refl A,h1,h5,h3,hL.trans h4⟩
 | seq x y ihx ihy=>
   intro ir hc A M L w H env O a Q hA yV h hf hL
   simp only [comp] at hc
   split at hc <;> cases hc
   rename_i x' y' hx hy
   simp only [mX] at h
   refine wpIn_seq (Go.wpIn_mono (ihx _ hx hA yV h hf hL) ?_)
   rintro e a' w' ⟨A',M',L',H',aK,O',hl,h1,h2,h3,h4⟩
   cases e with
   | normal=>exact Go.wpIn_mono (ihy _ hy (hA.le hl) (yV.ext h3) h1 h2 h4) fun e a w hp=>hp.trans hl h3
   | _=>exact ⟨A',M',L',H',aK,O',hl,h1,h2,h3,h4⟩
 | cond x c d ihc ihd=>
   intro ir hc A M L w H env O a Q hA yV h hf hL
   simp only [comp] at hc
   split at hc <;> cases hc
   rename_i i c' d' hi JK hd'
   simp only [mX] at h
   obtain ⟨q,hq,h⟩:=pJ h
   have hr:=hf.eval hi
   rw [hq] at hr
   generalize hu:a.eval x=u at hr
   cases hr
   refine wpIn_cond_split hu (fun e=>ihc _ JK hA yV (h.1 e) hf hL) (fun e=>ihd _ hd' hA yV (h.2 e) hf hL)
 | block id c ih=>
   intro ir hc A M L w H env O a Q hA yV h hf hL
   simp only [comp] at hc
   obtain ⟨c',JK,rfl⟩:=zW.1 hc
   simp only [mX] at h
   refine wpIn_block (Go.wpIn_mono (ih _ JK hA yV h hf hL) ?_)
   rintro e a' w' ⟨A',M',L',H',aK,O',hl,h1,h2,h3,h4⟩
   cases e with
   | exit id'=>
     simp only [Exit.inBlock]
     simp only at h1
     split at h1
     ·rename_i e;rw [if_pos e];exact ⟨A',M',L',H',aK,O',hl,h1,h2,h3,h4⟩
     ·rename_i e;rw [if_neg e];exact ⟨A',M',L',H',aK,O',hl,h1,h2,h3,h4⟩
   | _=>exact ⟨A',M',L',H',aK,O',hl,h1,h2,h3,h4⟩
 | loop c ih=>
   intro ir hc A M L w H env O a Q hA yV h hf hL
   simp only [comp] at hc
   obtain ⟨c',JK,rfl⟩:=zW.1 hc
   simp only [mX] at h
   obtain ⟨ι,I,se,sh,μ,⟨i0,wo,X6⟩,hround⟩:=h
   obtain ⟨L',O',qn,X5⟩:=hf.sle hA hL X6
   refine BH (fun i a' w'=>I i∧∃ A' M' L' O',A'.Le A∧Fr A' n M' L' w' (sh i) (se i) O' a'∧Ext A M w M' w'∧L0 <+: L') μ ?_ i0 ⟨wo,A,M,L',O',.refl A,qn,Ext.refl A M w,X5⟩
   rintro i a1 w1 ⟨hi,A1,M1,L1,O1,vZ,FO,vf,SN⟩
   refine Go.wpIn_mono (ih _ JK (hA.le vZ) (yV.ext vf) (hround i hi) FO SN) ?_
   rintro e a' w' ⟨A',M',L',H',aK,O',hl,h1,h2,h3,h4⟩
   cases e with
   | normal=>
     obtain ⟨j,hj,aP,hs⟩:=h1
     obtain ⟨L2,O2,uX,Ui⟩:=h2.sle ((hA.le vZ).le hl) h4 hs
     exact ⟨j,⟨hj,A',M',L2,O2,hl.trans vZ,uX,vf.trans (h3.le vZ),Ui⟩,aP⟩
   | _=>exact ⟨A',M',L',H',aK,O',hl.trans vZ,h1,h2,vf.trans (h3.le vZ),h4⟩
 | rangeFunc f ps as bd=>
   intro ir hc A M L w H env O a Q hA yV h hf hL
   simp only [comp] at hc
   obtain ⟨i,hi,rfl⟩:=zW.1 hc
   exact DI hA hi yV h hf hL
 | _=>
   intro ir hc A M L w H env O a Q hA yV h
   simp only [comp] at hc
   cases hc
   exact h.elim
end
end Go.aI
end
section
namespace Go.aI
open Go
section
variable {φ ψ:AV→Prop} (hm:∀ z,φ z→ψ z)
include hm
theorem tP {op:BinOp} {x y:AV} (h:dl op x y φ):dl op x y ψ:=by
 unfold dl at *
 split at h <;> (try exact h.elim)
 ·obtain ⟨h0,h⟩:=h
  refine ⟨h0,?_⟩
  split at h <;> first | exact hm _ h | exact ⟨h.1,hm _ h.2⟩ | exact h.elim
 ·split at h <;> first | exact hm _ h | exact ⟨h.1,hm _ h.2⟩ | exact h.elim
theorem oZ {op:BinOp} {x y:AV} (h:eE op x y φ):eE op x y ψ:=by
 unfold eE at *
 split at h <;> (try exact h.elim)
 obtain ⟨h0,h⟩:=h
 refine ⟨h0,?_⟩
 split at h <;> first | exact hm _ h | exact h.elim
theorem nv {neq:Bool} {x y:AV} (h:dc neq x y φ):dc neq x y ψ:=by
 unfold dc at *
 split at h <;> first | exact hm _ h | exact h.elim
theorem vh {kd:Nat} {neq:Bool} {x:AV} (h:dx kd neq x φ):dx kd neq x ψ:=by
 unfold dx at *
 split at h
 ·exact hm _ h
 ·split at h
  ·exact ⟨hm _ h.1,hm _ h.2⟩
  ·exact h.elim
theorem xo {op:UnOp} {x:AV} (h:Bk op x φ):Bk op x ψ:=by
 unfold Bk at *
 split at h <;> first | exact hm _ h | exact h.elim
theorem kR {sz:Option Nat} {x:AV} {H:List aa} (h:aY sz x H φ):aY sz x H ψ:=by
 unfold aY at *
 split at h <;> (try exact h.elim) <;> (split at h <;> (try exact h.elim)) <;> first | exact ⟨h.1,hm _ h.2⟩ | (split at h <;> exact ⟨h.1,hm _ h.2⟩)
theorem o6 {off:Nat} {sz:Option Nat} {x:AV} (h:fB off sz x φ):fB off sz x ψ:=by
 unfold fB apart at *
 split at h <;> (try exact h.elim)
 split at h <;> first | exact ⟨h.1,hm _ h.2⟩ | exact ⟨h.1,h.2.1,hm _ h.2.2⟩
theorem jX {off:Nat} {sz:Option Nat} {x:AV} (h:ap off sz x φ):ap off sz x ψ:=by
 unfold ap apart at *
 split at h <;> (try exact h.elim)
 ·exact hm _ h
 ·split at h <;> first | exact ⟨h.1,hm _ h.2⟩ | exact ⟨h.1,h.2.1,hm _ h.2.2⟩
theorem jY {esz:Nat} {x i:AV} (h:aE esz x i φ):aE esz x i ψ:=by
 unfold aE at *
 split at h <;> first | exact ⟨h.1,h.2.1,hm _ h.2.2⟩ | exact h.elim
theorem kS {x i:AV} (h:bO x i φ):bO x i ψ:=by
 unfold bO at *
 split at h <;> first | exact ⟨h.1,h.2.1,hm _ h.2.2⟩ | exact h.elim
theorem kT {n:Nat} {x i:AV} (h:b8 n x i φ):b8 n x i ψ:=by
 unfold b8 at *
 split at h <;> first | exact ⟨h.1,h.2.1,h.2.2.1,hm _ h.2.2.2⟩ | exact h.elim
theorem tQ {x:AV} {H:List aa} (h:fj x H φ):fj x H ψ:=by
 unfold fj at *
 split at h <;> (try exact h.elim) <;> (try exact hm _ h)
 ·exact fun hl=>hm _ (h hl)
 ·split at h <;> first | exact hm _ h | exact h.elim
theorem lW {x:AV} {i:Nat} (h:bK x i φ):bK x i ψ:=by
 unfold bK at *
 split at h <;> first | exact ⟨h.1,hm _ h.2⟩ | exact h.elim
theorem kU {x:AV} (h:b9 x φ):b9 x ψ:=by
 unfold b9 at *
 split at h <;> first | exact hm _ h | exact h.elim
theorem lX {k:IntKind} {x:AV} (h:cI k x φ):cI k x ψ:=by
 unfold cI at *
 split at h <;> first | exact hm _ h | exact h.elim
theorem xp {big:Bool} {x y:AV} (h:yY big x y φ):yY big x y ψ:=by
 unfold yY at *
 split at h <;> first | exact hm _ h | exact h.elim
theorem qC {x:AV} (h:gA x φ):gA x ψ:=by
 unfold gA at *
 split at h <;> first | exact hm _ h | exact h.elim
theorem qD {own:Nat} {x:AV} (h:fI own x φ):fI own x ψ:=by
 unfold fI at *
 split at h <;> first | exact ⟨h.1,hm _ h.2⟩ | exact h.elim
theorem vi {x:AV} (h:kM x φ):kM x ψ:=by
 unfold kM at *
 split at h <;> first | exact hm _ h | exact ⟨_,h.choose_spec.1,hm _ h.choose_spec.2⟩ | (obtain ⟨l,h1,h2⟩:=h;exact ⟨l,h1,hm _ h2⟩) | exact ⟨h.1,hm _ h.2⟩ | exact h.elim
theorem vj {esz bytes:Nat} {n:AV} (h:jU esz bytes n φ):jU esz bytes n ψ:=by
 unfold jU at *
 split at h <;> first | exact ⟨h.1,h.2.1,hm _ h.2.2⟩ | exact h.elim
theorem nw {kd:Nat} {z m k:AV} {ok:Bool} {H:List aa} (h:cB kd z m k ok H φ):cB kd z m k ok H ψ:=by
 unfold cB at *
 split at h <;> (try exact h.elim) <;> first | exact hm _ h | exact ⟨h.1,hm _ h.2⟩ | (split at h <;> (try exact h.elim) <;> first | exact hm _ h | exact ⟨h.1,hm _ h.2⟩ | (split at h <;> (try exact h.elim) <;> first | exact hm _ h | exact ⟨h.1,hm _ h.2⟩))
end
theorem ff {x:Option AV} {d:Nat} {φ ψ:Nat→Prop} (hm:∀ k,φ k→ψ k) (h:ep x d φ):ep x d ψ:=by
 unfold ep at *
 split at h <;> first | exact hm _ h | exact ⟨h.1,hm _ h.2⟩ | exact h.elim
theorem vk {esz:Nat} {x:AV} {lo hi mx:Option AV} {φ ψ:AV→Prop} (hm:∀ z,φ z→ψ z) (h:fH esz x lo hi mx φ):fH esz x lo hi mx ψ:=by
 unfold fH at *
 split at h <;> (try exact h.elim)
 refine ff (fun k h=>ff (fun l h=>⟨h.1,h.2.1,?_⟩) h) h
 obtain ⟨_,_,h⟩:=h
 split at h
 ·exact hm _ h
 ·exact ⟨h.1,ff (fun m h=>⟨h.1,h.2.1,hm _ h.2.2⟩) h.2⟩
theorem nz {esz:Nat} {x:AV} {lo hi mx:Option AV} {φ ψ:AV→Prop} (hm:∀ z,φ z→ψ z) (h:bC esz x lo hi mx φ):bC esz x lo hi mx ψ:=by
 unfold bC iM pH at *
 split at h
 ·split at h
  ·exact ff (fun k h=>ff (fun l h=>⟨h.1,h.2.1,hm _ h.2.2⟩) h) h
  ·exact ⟨h.1,ff (fun m h=>ff (fun k h=>ff (fun l h=>⟨h.1,h.2.1,h.2.2.1,hm _ h.2.2.2⟩) h) h) h.2⟩
 ·exact ⟨h.1,vk hm h.2⟩
theorem kV {x:AV} {lo hi:Option AV} {φ ψ:AV→Prop} (hm:∀ z,φ z→ψ z) (h:cv x lo hi φ):cv x lo hi ψ:=by
 unfold cv at *
 split at h <;> (try exact h.elim)
 exact ff (fun k h=>ff (fun l h=>⟨h.1,h.2.1,hm _ h.2.2⟩) h) h
theorem nA {φ ψ:List AV→Prop} (hm:∀ z,φ z→ψ z):∀ {ps:List (Nat×Nat×AV)} {zs:List AV},iJ zs ps φ→iJ zs ps ψ
 | [],zs,h=>hm _ h
 | (off,sz,x)::r,zs,h=>⟨h.1,h.2.1,h.2.2.1,nA hm h.2.2.2⟩
theorem iO {esz:Nat} {φ ψ:List AV→Prop} (hm:∀ z,φ z→ψ z):∀ {ps:List (Nat×AV)} {zs:List AV},bm zs esz ps φ→bm zs esz ps ψ
 | [],zs,h=>hm _ h
 | (i,x)::r,zs,h=>⟨h.1,h.2.1,h.2.2.1,iO hm h.2.2.2⟩
def Uj (τ:Nat→AV) (dst:Option Nat) (x:AV):Nat→AV:=match dst with | some d=>fZ τ d x | none=>τ
theorem lA (env:Env) (dst:Option Nat) (x:AV):get (put dst x env)=Uj (get env) dst x:=by cases dst <;> rfl
theorem o7 {lo:Option IX} {env:Env} {ρ:IX→AV} (h:∀ i∈lo.toList,au env i=ρ i):lo.map ρ=gU env lo:=by
 cases lo with
 | none=>rfl
 | some i=>simp [gU,h i (by simp)]
theorem o8 {is:List IX} {env:Env} {ρ:IX→AV} (h:∀ i∈is,au env i=ρ i) (g:AV→AV):(is.map fun x=>g (au env x))=is.map fun x=>g (ρ x):=by
 apply acB
 intro i hi
 rw [h i hi]
theorem o9 (env:Env):∀ (is:List IX) (j:Nat),aL env none j is=is.map fun x=>(au env x).ab
 | [],_=>rfl
 | .t s::r,j=>by simp [aL,o9 env r,au]
 | .c v::r,j=>by simp [aL,o9 env r,au]
theorem DJ {P:Px} {o:ch} {dst:Option Nat} {ρ:IX→AV} {env:Env} {H:List aa} {x:AV} (h:di P o ρ H x) (hρ:∀ i∈o.all,au env i=ρ i) :
 bD P o dst env H fun e h=>h=H∧get e=get (put dst x env):=by
 have key:∀ z,z=x→(H=H∧get (put dst z env)=get (put dst x env)):=fun z e=>⟨rfl,e ▸ rfl⟩
 cases o with
 | set i take=>
   cases take with
   | true=>exact h.elim
   | false=>
     simp only [di,ch.all,aat,forall_eq] at h hρ
     rw [← hρ] at h
     unfold bD
     cases dst with
     | none=>exact ⟨rfl,rfl⟩
     | some d=>
       subst h
       refine ⟨rfl,?_⟩
       cases i <;> rfl
 | pick c a b=>
   simp only [di,ch.all,Xi,abr,or_false,forall_eq_or_imp,forall_eq] at h hρ
   obtain ⟨h1,h2,h3⟩:=hρ
   rw [← h1,← h2,← h3] at h
   obtain ⟨q,hq,h⟩:=pJ h
   show fA (au env c) _
   rw [hq]
   exact ⟨fun e=>key _ (h.1 e),fun e=>key _ (h.2 e)⟩
 | bin op i j=>
   simp only [di,ch.all,Xi,abr,or_false,forall_eq_or_imp,forall_eq] at h hρ
   obtain ⟨h1,h2⟩:=hρ
   rw [← h1,← h2] at h
   exact tP key h
 | shift op i j=>
   simp only [di,ch.all,Xi,abr,or_false,forall_eq_or_imp,forall_eq] at h hρ
   obtain ⟨h1,h2⟩:=hρ
   rw [← h1,← h2] at h
   exact oZ key h
 | jl neq i j=>
   simp only [di,ch.all,Xi,abr,or_false,forall_eq_or_imp,forall_eq] at h hρ
   obtain ⟨h1,h2⟩:=hρ
   rw [← h1,← h2] at h
   exact nv key h
 | mx big i j=>
   simp only [di,ch.all,Xi,abr,or_false,forall_eq_or_imp,forall_eq] at h hρ
   obtain ⟨h1,h2⟩:=hρ
   rw [← h1,← h2] at h
   exact xp key h
 | indexAddr esz i j=>
   simp only [di,ch.all,Xi,abr,or_false,forall_eq_or_imp,forall_eq] at h hρ
   obtain ⟨h1,h2⟩:=hρ
   rw [← h1,← h2] at h
   exact ⟨h.1,jY key h.2⟩
 | dm i j=>
   simp only [di,ch.all,Xi,abr,or_false,forall_eq_or_imp,forall_eq] at h hρ
   obtain ⟨h1,h2⟩:=hρ
   rw [← h1,← h2] at h
   exact kS key h
 | eC n i j=>
   simp only [di,ch.all,Xi,abr,or_false,forall_eq_or_imp,forall_eq] at h hρ
   obtain ⟨h1,h2⟩:=hρ
   rw [← h1,← h2] at h
   exact kT key h
 | lookup kd z i j ok=>
   simp only [di,ch.all,Xi,abr,or_false,forall_eq_or_imp,forall_eq] at h hρ
   obtain ⟨h1,h2⟩:=hρ
   rw [← h1,← h2] at h
   exact nw key h
 | kg kd neq i=>
   simp only [di,ch.all,aat,forall_eq] at h hρ
   rw [← hρ] at h
   exact vh key h
 | un op i=>
   simp only [di,ch.all,aat,forall_eq] at h hρ
   rw [← hρ] at h
   exact xo key h
 | m8 i=>
   simp only [di,ch.all,aat,forall_eq] at h hρ
   rw [← hρ] at h
   exact ⟨h.1,key _ h.2⟩
 | load sz i=>
   simp only [di,ch.all,aat,forall_eq] at h hρ
   rw [← hρ] at h
   exact kR key h
 | nilCheck i=>
   simp only [di,ch.all,aat,forall_eq] at h hρ
   rw [← hρ] at h
   exact kU key h
 | fieldAddr off sz i=>
   simp only [di,ch.all,aat,forall_eq] at h hρ
   rw [← hρ] at h
   exact jX key h
 | field off sz i=>
   simp only [di,ch.all,aat,forall_eq] at h hρ
   rw [← hρ] at h
   exact o6 key h
 | len kd i=>
   simp only [di,ch.all,aat,forall_eq] at h hρ
   rw [← hρ] at h
   exact ⟨h.1,tQ key h.2⟩
 | extract i k=>
   simp only [di,ch.all,aat,forall_eq] at h hρ
   rw [← hρ] at h
   exact lW key h
 | fp k i=>
   simp only [di,ch.all,aat,forall_eq] at h hρ
   rw [← hρ] at h
   exact lX key h
 | iI i=>
   simp only [di,ch.all,aat,forall_eq] at h hρ
   rw [← hρ] at h
   exact qC key h
 | bytesOf i=>
   simp only [di,ch.all,aat,forall_eq] at h hρ
   rw [← hρ] at h
   exact qD key h
 | oN esz bytes i=>
   simp only [di,ch.all,aat,forall_eq] at h hρ
   rw [← hρ] at h
   exact vj key h
 | strOf i=>
   simp only [di,ch.all,aat,forall_eq] at h hρ
   rw [← hρ] at h
   exact vi key h
 | build z ps=>
   simp only [di,ch.all] at h hρ
   have:(ps.map fun q=>(q.1,q.2.1,au env q.2.2))=ps.map fun q=>(q.1,q.2.1,ρ q.2.2):=
    acB fun q hq=>by rw [hρ _ (aan.2 ⟨q,hq,rfl⟩)]
   show cD z.cells (ps.map fun q=>(q.1,q.2.1,au env q.2.2)) (fun v=>H=H∧get (put dst v env)=get (put dst x env))
   rw [this]
   exact nA (fun v h=>key _ h) h
 | buildSlice own esz z len ps=>
   simp only [di,ch.all] at h hρ
   have:(ps.map fun q=>(q.1,au env q.2))=ps.map fun q=>(q.1,ρ q.2):=
    acB fun q hq=>by rw [hρ _ (aan.2 ⟨q,hq,rfl⟩)]
   show bm _ _ (ps.map fun q=>(q.1,au env q.2)) _
   rw [this]
   exact iO (fun v h=>key (.aj own v) h) h
 | slice esz i lo hi mx=>
   simp only [di,ch.all,Xi,abZ,forall_eq_or_imp] at h hρ
   obtain ⟨h1,h2⟩:=hρ
   rw [← h1,o7 (fun i hi=>h2 i (.inl (.inl hi))),o7 (fun i hi=>h2 i (.inl (.inr hi))),o7 (fun i hi=>h2 i (.inr hi))] at h
   exact nz key h
 | eD i lo hi=>
   simp only [di,ch.all,Xi,abZ,forall_eq_or_imp] at h hρ
   obtain ⟨h1,h2⟩:=hρ
   rw [← h1,o7 (fun i hi=>h2 i (.inl hi)),o7 (fun i hi=>h2 i (.inr hi))] at h
   exact kV key h
 | fn f first cap=>
   simp only [di,ch.all,abZ] at h hρ
   refine key _ ?_
   rw [o8 (fun i hi=>hρ i (.inl hi)) AV.ab,o8 (fun i hi=>hρ i (.inr hi)) AV.ab]
   exact h
 | call f args pass=>
   cases pass with
   | some _=>exact h.elim
   | none=>
     simp only [di,ch.all,Xi,forall_eq_or_imp] at h hρ
     obtain ⟨h1,h2⟩:=hρ
     rw [← h1] at h
     split at h <;> try exact h.elim
     rename_i g first cap hg
     show qz P (au env f) args none env H (fun r aK H'=>H'=H∧get (put dst r aK)=get (put dst x env))
     rw [hg]
     obtain ⟨bX,hl,hcall⟩:=h
     refine ⟨bX,?_,dG.of <| hcall.mono ?_⟩
     ·rw [o9,o8 h2 AV.ab];exact hl
     ·rintro r H' ⟨hr,rfl⟩
      exact key r hr
 | _=>exact h.elim
end Go.aI
end
section
namespace Go.aI
open Go
theorem DK {m:Nat} {p x:AV} {H:List aa} {K K':List aa→Prop} (hm:∀ H',K H'→K' H') (h:jn m p x H K):jn m p x H K':=by
 unfold jn at *
 split at h <;> (try exact h.elim)
 split at h <;> (try exact h.elim)
 exact ⟨h.1,h.2.1,h.2.2.1,h.2.2.2.1,h.2.2.2.2.1,hm _ h.2.2.2.2.2⟩
theorem zk {p x:AV} {H:List aa} {K K':List aa→Prop} (hm:∀ H',K H'→K' H') (h:eF p x H K):eF p x H K':=by
 unfold eF at *
 split at h <;> (try exact h.elim)
 split at h <;> (try exact h.elim)
 exact ⟨h.1,h.2.1,h.2.2.1,hm _ h.2.2.2⟩
theorem BI {esz bytes:Nat} {s x:AV} {φ ψ:List AV→Prop} (hm:∀ z,φ z→ψ z) (h:bw esz bytes s x φ):bw esz bytes s x ψ:=by
 unfold bw at *
 split at h <;> (try exact h.elim)
 exact ⟨h.1,h.2.1,hm _ h.2.2⟩
theorem zm {esz bytes:Nat} {z s x:AV} {H:List aa} {K K':AV→List aa→Prop} (hm:∀ v H',K v H'→K' v H') (h:cV esz bytes z s x H K):cV esz bytes z s x H K':=by
 unfold cV at *
 cases hr:dA x with
 | none=>
   rw [hr] at h
   simp only at h ⊢
   split at h <;> try exact h.elim
   rename_i id off len cap n ys w9
   cases hi:H[id]? with
   | none=>rw [hi] at h;exact h.elim
   | some ob=>
     rw [hi] at h
     cases ob with
     | cells es=>
       obtain ⟨a,b,c,d,e,f⟩:=h
       exact ⟨a,b,c,d,e,hm _ _ f⟩
     | _=>exact h.elim
 | some ys=>
   rw [hr] at h
   obtain ⟨h1,h⟩:=h
   refine ⟨h1,?_⟩
   cases s with
   | ag=>
     obtain ⟨a,b,c⟩:=h
     exact ⟨a,fun e=>hm _ _ (b e),fun e cap h1 h2=>⟨(c e cap h1 h2).1,hm _ _ (c e cap h1 h2).2⟩⟩
   | oI=>
     obtain ⟨a,b,c⟩:=h
     exact ⟨a,fun e=>hm _ _ (b e),fun e cap h1 h2=>⟨(c e cap h1 h2).1,hm _ _ (c e cap h1 h2).2⟩⟩
   | a7 id off len cap=>
     simp only at h ⊢
     cases hi:H[id]? with
     | none=>rw [hi] at h;exact h.elim
     | some ob=>
       rw [hi] at h
       cases ob with
       | cells es=>
         obtain ⟨a,b,c,d,f⟩:=h
         exact ⟨a,b,c,fun e=>⟨(d e).1,hm _ _ (d e).2⟩,fun e dM h1 h2=>⟨(f e dM h1 h2).1,hm _ _ (f e dM h1 h2).2⟩⟩
       | _=>exact h.elim
   | _=>exact h.elim
theorem zn {lm:Nat→Nat} {esz bytes:Nat} {z s x:AV} {H:List aa} {K K':AV→List aa→Prop} (hm:∀ v H',K v H'→K' v H') (h:jG lm esz bytes z s x H K):jG lm esz bytes z s x H K':=by
 unfold jG at *
 cases hr:dA x with
 | none=>
   rw [hr] at h
   simp only at h ⊢
   split at h <;> try exact h.elim
   rename_i id off len cap n ys w9
   cases hi:H[id]? with
   | none=>rw [hi] at h;exact h.elim
   | some ob=>
     rw [hi] at h
     cases ob with
     | cells es=>
       obtain ⟨a,b,c,d,e,f⟩:=h
       exact ⟨a,b,c,d,e,hm _ _ f⟩
     | _=>exact h.elim
 | some ys=>
   rw [hr] at h
   obtain ⟨h1,h⟩:=h
   refine ⟨h1,?_⟩
   cases s with
   | ag=>
     obtain ⟨a,b,c⟩:=h
     exact ⟨a,fun e=>hm _ _ (b e),fun e cap h1 h2=>⟨(c e cap h1 h2).1,hm _ _ (c e cap h1 h2).2⟩⟩
   | oI=>
     obtain ⟨a,b,c⟩:=h
     exact ⟨a,fun e=>hm _ _ (b e),fun e cap h1 h2=>⟨(c e cap h1 h2).1,hm _ _ (c e cap h1 h2).2⟩⟩
   | a7 id off len cap=>
     simp only at h ⊢
     cases hi:H[id]? with
     | none=>rw [hi] at h;exact h.elim
     | some ob=>
       rw [hi] at h
       cases ob with
       | cells es=>
         obtain ⟨a,b,c,d,f⟩:=h
         exact ⟨a,b,c,fun e=>⟨(d e).1,hm _ _ (d e).2⟩,fun e dM h1 h2=>⟨(f e dM h1 h2).1,hm _ _ (f e dM h1 h2).2⟩⟩
       | _=>exact h.elim
   | _=>exact h.elim
theorem zp {lo esz bytes:Nat} {z s x:AV} {H:List aa} {K K':AV→List aa→Prop} (hm:∀ v H',K v H'→K' v H') (h:fJ lo esz bytes z s x H K):fJ lo esz bytes z s x H K':=⟨h.1,zn hm h.2⟩
theorem BJ {esz:Nat} {z x:AV} {H:List aa} {K K':List aa→Prop} (hm:∀ H',K H'→K' H') (h:jB esz z x H K):jB esz z x H K':=by
 unfold jB at *
 split at h <;> (try exact h.elim)
 split at h <;> (try exact h.elim)
 exact ⟨h.1,h.2.1,h.2.2.1,hm _ h.2.2.2⟩
theorem DL {esz bytes:Nat} {z n:AV} {H:List aa} {K K':AV→List aa→Prop} (hm:∀ v H',K v H'→K' v H') (h:fF esz bytes z n H K):fF esz bytes z n H K':=by
 unfold fF at *
 split at h <;> (try exact h.elim)
 exact ⟨h.1,h.2.1,h.2.2.1,hm _ _ h.2.2.2⟩
theorem BK {kd:Nat} {m k x:AV} {H:List aa} {K K':List aa→Prop} (hm:∀ H',K H'→K' H') (h:fV kd m k x H K):fV kd m k x H K':=by
 unfold fV at *
 split at h <;> (try exact h.elim)
 split at h <;> (try exact h.elim)
 refine ⟨h.1,h.2.1,h.2.2.1,?_⟩
 obtain ⟨_,_,_,h⟩:=h
 split at h
 ·exact hm _ h
 ·exact ⟨h.1,hm _ h.2⟩
 ·exact h.elim
theorem Gs {esz:Nat} {d s:AV} {H:List aa} {K K':AV→List aa→Prop} (hm:∀ v H',K v H'→K' v H') (h:kN esz d s H K):kN esz d s H K':=by
 unfold kN at *
 split at h <;> (try exact h.elim)
 split at h <;> (try exact h.elim)
 exact ⟨h.1,h.2.1,h.2.2.1,hm _ _ h.2.2.2⟩
theorem lB {esz:Nat} {x:AV} {H:List aa} {K K':AV→List aa→Prop} (hm:∀ v H',K v H'→K' v H') (h:ee esz x H K):ee esz x H K':=by
 unfold ee at *
 split at h
 ·split at h <;> (try exact h.elim)
  exact ⟨h.1,h.2.1,h.2.2.1,h.2.2.2.1,hm _ _ h.2.2.2.2⟩
 ·exact h.elim
 ·exact hm _ _ h
 ·exact hm _ _ h
theorem vn {esz:Nat}:∀ {xs:List AV} {H:List aa} {K K':List AV→List aa→Prop} (hm:∀ v H',K v H'→K' v H') (h:kO esz xs H K),kO esz xs H K'
 | [],H,K,K',hm,h=>hm _ _ h
 | x::r,H,K,K',hm,h=>lB (fun v H' hk=>vn (fun vs H'' h2=>hm _ _ h2) hk) h
theorem JL {e id c:Nat} {H:List aa} {K K':List aa→Prop} (hm:∀ H',K H'→K' H') (h:By e id c H K):By e id c H K':=by
 unfold By at *
 split at h <;> (try exact h.elim)
 split at h <;> (try exact h.elim)
 ·exact lB (fun v H' hk=>⟨hk.1,hk.2.1,hm _ hk.2.2⟩) h
 ·exact hm _ h
theorem xq {esz:Nat} {x:AV} {H:List aa} {K K':AV→List aa→Prop} (hm:∀ v H',K v H'→K' v H') (h:gf esz x H K):gf esz x H K':=by
 unfold gf at *
 split at h
 ·exact vn (fun v H' hk=>hm _ _ hk) h
 ·split at h
  ·rename_i hc;rw [if_pos hc];exact JL (hm _) h
  ·rename_i hc;rw [if_neg hc];exact lB hm h
 ·exact lB hm h
theorem BL {l m:Nat} {p x:AV} {H:List aa} {K K':List aa→Prop} (hm:∀ H',K H'→K' H') (h:iL l m p x H K):iL l m p x H K':=by
 unfold iL at *
 split at h <;> (try exact h.elim)
 split at h <;> (try exact h.elim)
 exact ⟨h.1,h.2.1,h.2.2.1,h.2.2.2.1,h.2.2.2.2.1,h.2.2.2.2.2.1,hm _ h.2.2.2.2.2.2⟩
theorem pc {env1 cZ:Env} {pass:Option Nat}:∀ {is:List IX} {j:Nat},(∀ i∈is,au cZ i=au env1 i)→aL cZ pass j is=aL env1 pass j is
 | [],_,_=>rfl
 | .t s::r,j,h=>by
   have h1:get cZ s=get env1 s:=h (.t s) (by simp)
   simp only [aL,h1,pc (fun i hi=>h i (aaK _ hi))]
 | .c v::r,j,h=>by
   simp only [aL,pc (fun i hi=>h i (aaK _ hi))]
theorem iu {lo:Option IX} {env1 cZ:Env} (h:∀ i∈lo.toList,au cZ i=au env1 i):gU cZ lo=gU env1 lo:=by
 cases lo with
 | none=>rfl
 | some i=>simp [gU,h i (by simp)]
theorem pL {P:Px} {o:ch} {dst:Option Nat} {env1 cZ:Env} {H:List aa} {K1 K2:Env→List aa→Prop} (hl:∀ i∈o.all,au cZ i=au env1 i) (h:bD P o dst env1 H K1)
 (hK:∀ (mods:List (Nat×AV)) H',(∀ p∈mods,dst=some p.1∨p.1∈o.kill)→(o.Ue=false→H'=H)→(o.Aa=true→∃ e,H'=H++e)→K1 (mods++env1) H'→K2 (mods++cZ) H'):bD P o dst cZ H K2:=by
 have kput:∀ z H',(o.Ue=false→H'=H)→(o.Aa=true→∃ e,H'=H++e)→K1 (put dst z env1) H'→K2 (put dst z cZ) H':=by
  intro z H' hc hg
  cases hd:dst with
  | none=>exact hK [] H' (by simp) hc hg
  | some d=>exact hK [(d,z)] H' (by simp [hd]) hc hg
 have kput0:∀ z,K1 (put dst z env1) H→K2 (put dst z cZ) H:=fun z=>kput z H (fun _=>rfl) (fun _=>⟨[],by simp⟩)
 have kenv:∀ H',(o.Ue=false→H'=H)→(o.Aa=true→∃ e,H'=H++e)→K1 env1 H'→K2 cZ H':=fun H' hc hg=>hK [] H' (by simp) hc hg
 cases o with
 | set i take=>
   simp only [ch.all,aat,forall_eq] at hl
   simp only [bD] at h ⊢
   cases dst with
   | none=>exact kenv H (fun _=>rfl) (fun _=>⟨[],by simp⟩) h
   | some d=>
     simp only at h ⊢
     cases i with
     | c v=>cases take <;> exact kput0 _ h
     | t s=>
       have hs:get cZ s=get env1 s:=hl
       cases take with
       | false=>
         have e1:vO env1 d (.t s) false=put (some d) (get env1 s).ab env1:=rfl
         have e2:vO cZ d (.t s) false=put (some d) (get env1 s).ab cZ:=by simp only [vO,put,au,hs]
         rw [e2];rw [e1] at h
         exact kput0 _ h
       | true=>
         have e1:vO env1 d (.t s) true=[(d,get env1 s),(s,(get env1 s).ab)]++env1:=rfl
         have e2:vO cZ d (.t s) true=[(d,get env1 s),(s,(get env1 s).ab)]++cZ:=by simp only [vO,hs];rfl
         rw [e2];rw [e1] at h
         exact hK _ H (by simp [ch.kill]) (fun _=>rfl) (fun _=>⟨[],by simp⟩) h
 | pick c a b=>
   simp only [ch.all,Xi,abr,or_false,forall_eq_or_imp,forall_eq] at hl
   obtain ⟨h1,h2,h3⟩:=hl
   simp only [bD] at h ⊢
   rw [h1,h2,h3]
   obtain ⟨q,hq,h⟩:=pJ h
   rw [hq]
   exact ⟨fun e=>kput0 _ (h.1 e),fun e=>kput0 _ (h.2 e)⟩
 | bin op i j=>
   simp only [ch.all,Xi,abr,or_false,forall_eq_or_imp,forall_eq] at hl
   simp only [bD] at h ⊢
   rw [hl.1,hl.2]
   exact tP kput0 h
 | shift op i j=>
   simp only [ch.all,Xi,abr,or_false,forall_eq_or_imp,forall_eq] at hl
   simp only [bD] at h ⊢
   rw [hl.1,hl.2]
   exact oZ kput0 h
 | jl neq i j=>
   simp only [ch.all,Xi,abr,or_false,forall_eq_or_imp,forall_eq] at hl
   simp only [bD] at h ⊢
   rw [hl.1,hl.2]
   exact nv kput0 h
 | indexAddr esz i j=>
   simp only [ch.all,Xi,abr,or_false,forall_eq_or_imp,forall_eq] at hl
   simp only [bD] at h ⊢
   rw [hl.1,hl.2]
   exact ⟨h.1,jY kput0 h.2⟩
 | dm i j=>
   simp only [ch.all,Xi,abr,or_false,forall_eq_or_imp,forall_eq] at hl
   simp only [bD] at h ⊢
   rw [hl.1,hl.2]
   exact kS kput0 h
 | eC n i j=>
   simp only [ch.all,Xi,abr,or_false,forall_eq_or_imp,forall_eq] at hl
   simp only [bD] at h ⊢
   rw [hl.1,hl.2]
   exact kT kput0 h
 | lookup kd z i j ok=>
   simp only [ch.all,Xi,abr,or_false,forall_eq_or_imp,forall_eq] at hl
   simp only [bD] at h ⊢
   rw [hl.1,hl.2]
   exact nw kput0 h
 | mx big i j=>
   simp only [ch.all,Xi,abr,or_false,forall_eq_or_imp,forall_eq] at hl
   simp only [bD] at h ⊢
   rw [hl.1,hl.2]
   exact xp kput0 h
 | store m i j=>
   simp only [ch.all,Xi,abr,or_false,forall_eq_or_imp,forall_eq] at hl
   simp only [bD] at h ⊢
   rw [hl.1,hl.2]
   exact DK (fun H' hk=>kenv H' (fun e=>by cases e) (fun e=>by cases e) hk) h
 | oM m i j=>
   simp only [ch.all,Xi,abr,or_false,forall_eq_or_imp,forall_eq] at hl
   simp only [bD] at h ⊢
   rw [hl.1,hl.2]
   split at h <;> (try exact h.elim)
   exact BL (fun H' hk=>kenv H' (fun e=>by cases e) (fun e=>by cases e) hk) h
 | append esz bytes i j=>
   simp only [ch.all,Xi,abr,or_false,forall_eq_or_imp,forall_eq] at hl
   simp only [bD] at h ⊢
   rw [hl.1,hl.2]
   refine BI (fun zs hk=>?_) h
   cases i with
   | c v=>exact kput0 _ hk
   | t s=>
     have hs:get cZ s=get env1 s:=hl.1
     have e:∀ env:Env,get env s=get env1 s→put dst (.aj esz zs) (cL env (IX.t s).slot)=(put dst (.aj esz zs) [(s,(get env1 s).ab)])++env:=by
      intro env he
      cases dst <;> simp [put,cL,IX.slot,he]
     rw [e env1 rfl] at hk
     rw [e cZ hs]
     refine hK _ H ?_ (fun _=>rfl) (fun _=>⟨[],by simp⟩) hk
     intro p hp
     cases dst with
     | none=>simp [put] at hp;subst hp;right;simp [ch.kill]
     | some d=>
       simp [put] at hp
       rcases hp with rfl | rfl
       ·left;rfl
       ·right;simp [ch.kill]
 | copy esz i j=>
   simp only [ch.all,Xi,abr,or_false,forall_eq_or_imp,forall_eq] at hl
   simp only [bD] at h ⊢
   rw [hl.1,hl.2]
   exact Gs (fun v H' hk=>kput v H' (fun e=>by cases e) (fun e=>by cases e) hk) h
 | lO kd i j k=>
   simp only [ch.all,Xi,abr,or_false,forall_eq_or_imp,forall_eq] at hl
   simp only [bD] at h ⊢
   rw [hl.1,hl.2.1,hl.2.2]
   exact BK (fun H' hk=>kenv H' (fun e=>by cases e) (fun e=>by cases e) hk) h
 | fR i s=>
   simp only [ch.all,Xi,abr,or_false,forall_eq_or_imp,forall_eq] at hl
   simp only [bD] at h ⊢
   have hs:get cZ s=get env1 s:=hl.2
   rw [hl.1,hs]
   exact zk (fun H' hk=>hK [(s,(get env1 s).ab)] H' (by simp [ch.kill]) (fun e=>by cases e) (fun e=>by cases e) hk) h
 | kg kd neq i=>
   simp only [ch.all,aat,forall_eq] at hl
   simp only [bD] at h ⊢
   rw [hl]
   exact vh kput0 h
 | un op i=>
   simp only [ch.all,aat,forall_eq] at hl
   simp only [bD] at h ⊢
   rw [hl]
   exact xo kput0 h
 | box i=>
   simp only [ch.all,aat,forall_eq] at hl
   simp only [bD] at h ⊢
   rw [hl]
   exact ⟨h.1,h.2.1,kput _ _ (fun e=>by cases e) (fun _=>⟨_,rfl⟩) h.2.2⟩
 | m8 i=>
   simp only [ch.all,aat,forall_eq] at hl
   simp only [bD] at h ⊢
   rw [hl]
   exact ⟨h.1,kput0 _ h.2⟩
 | tC m i=>
   simp only [ch.all,aat,forall_eq] at hl
   simp only [bD] at h ⊢
   rw [hl]
   exact ⟨h.1,h.2.1,h.2.2.1,kput0 _ h.2.2.2⟩
 | alloc z=>
   simp only [bD] at h ⊢
   exact ⟨h.1,kput _ _ (fun e=>by cases e) (fun _=>⟨_,rfl⟩) h.2⟩
 | oO=>
   simp only [bD] at h ⊢
   exact kput _ _ (fun e=>by cases e) (fun _=>⟨_,rfl⟩) h
 | load sz i=>
   simp only [ch.all,aat,forall_eq] at hl
   simp only [bD] at h ⊢
   rw [hl]
   exact kR kput0 h
 | uO sz esz i=>
   simp only [ch.all,aat,forall_eq] at hl
   simp only [bD] at h ⊢
   rw [hl]
   exact kR (fun z hz=>xq (fun v H' hk=>kput v H' (fun e=>by cases e) (fun e=>by cases e) hk) hz) h
 | eY i=>
   simp only [ch.all,aat,forall_eq] at hl
   simp only [bD] at h ⊢
   rw [hl]
   cases dst with
   | none=>exact h.elim
   | some d=>
     cases hv:au env1 i with
     | ptr id off=>
       rw [hv] at h
       simp only at h ⊢
       cases bn:H[id]? with
       | none=>rw [bn] at h;exact h.elim
       | some ob=>
         rw [bn] at h
         cases ob with
         | cells es=>exact ⟨h.1,hK [(d,es.getD off .any)] _ (by simp) (fun e=>by cases e) (fun e=>by cases e) h.2⟩
         | _=>exact h.elim
     | _=>rw [hv] at h;exact h.elim
 | Bi esz i=>
   simp only [ch.all,aat,forall_eq] at hl
   simp only [bD] at h ⊢
   rw [hl]
   exact xq (fun v H' hk=>kput v H' (fun e=>by cases e) (fun e=>by cases e) hk) h
 | nilCheck i=>
   simp only [ch.all,aat,forall_eq] at hl
   simp only [bD] at h ⊢
   rw [hl]
   exact kU kput0 h
 | fieldAddr off sz i=>
   simp only [ch.all,aat,forall_eq] at hl
   simp only [bD] at h ⊢
   rw [hl]
   exact jX kput0 h
 | field off sz i=>
   simp only [ch.all,aat,forall_eq] at hl
   simp only [bD] at h ⊢
   rw [hl]
   exact o6 kput0 h
 | len kd i=>
   simp only [ch.all,aat,forall_eq] at hl
   simp only [bD] at h ⊢
   rw [hl]
   exact ⟨h.1,tQ kput0 h.2⟩
 | uP esz bytes z i=>
   simp only [ch.all,aat,forall_eq] at hl
   simp only [bD] at h ⊢
   rw [hl]
   exact DL (fun v H' hk=>kput v H' (fun e=>by cases e) (fun e=>by cases e) hk) h
 | oN esz bytes i=>
   simp only [ch.all,aat,forall_eq] at hl
   simp only [bD] at h ⊢
   rw [hl]
   exact vj kput0 h
 | extract i k=>
   simp only [ch.all,aat,forall_eq] at hl
   simp only [bD] at h ⊢
   rw [hl]
   exact lW kput0 h
 | fp k i=>
   simp only [ch.all,aat,forall_eq] at hl
   simp only [bD] at h ⊢
   rw [hl]
   exact lX kput0 h
 | iI i=>
   simp only [ch.all,aat,forall_eq] at hl
   simp only [bD] at h ⊢
   rw [hl]
   exact qC kput0 h
 | bytesOf i=>
   simp only [ch.all,aat,forall_eq] at hl
   simp only [bD] at h ⊢
   rw [hl]
   exact qD kput0 h
 | strOf i=>
   simp only [ch.all,aat,forall_eq] at hl
   simp only [bD] at h ⊢
   rw [hl]
   exact vi kput0 h
 | build z ps=>
   simp only [ch.all] at hl
   simp only [bD] at h ⊢
   have:(ps.map fun q=>(q.1,q.2.1,au cZ q.2.2))=ps.map fun q=>(q.1,q.2.1,au env1 q.2.2):=
    acB fun q hq=>by rw [hl _ (aan.2 ⟨q,hq,rfl⟩)]
   rw [this]
   exact nA (fun v hk=>kput0 _ hk) h
 | Dg esz z len ps=>
   simp only [ch.all] at hl
   simp only [bD] at h ⊢
   have:(ps.map fun q=>(q.1,au cZ q.2))=ps.map fun q=>(q.1,au env1 q.2):=
    acB fun q hq=>by rw [hl _ (aan.2 ⟨q,hq,rfl⟩)]
   rw [this]
   exact iO (fun v hk=>⟨hk.1,kput _ _ (fun e=>by cases e) (fun e=>by cases e) hk.2⟩) h
 | kj esz bytes z i j=>
   simp only [ch.all,Xi,abr,or_false,forall_eq_or_imp,forall_eq] at hl
   simp only [bD] at h ⊢
   rw [hl.1,hl.2]
   exact zm (fun v H' hk=>kput v H' (fun e=>by cases e) (fun e=>by cases e) hk) h
 | km esz bytes z i j=>
   simp only [ch.all,Xi,abr,or_false,forall_eq_or_imp,forall_eq] at hl
   simp only [bD] at h ⊢
   rw [hl.1,hl.2]
   split at h <;> (try exact h.elim)
   exact zp (fun v H' hk=>kput v H' (fun e=>by cases e) (fun e=>by cases e) hk) h
 | oP esz z i=>
   simp only [ch.all,aat,forall_eq] at hl
   simp only [bD] at h ⊢
   rw [hl]
   exact BJ (fun H' hk=>kput _ H' (fun e=>by cases e) (fun e=>by cases e) hk) h
 | buildSlice own esz z len ps=>
   simp only [ch.all] at hl
   simp only [bD] at h ⊢
   have:(ps.map fun q=>(q.1,au cZ q.2))=ps.map fun q=>(q.1,au env1 q.2):=
    acB fun q hq=>by rw [hl _ (aan.2 ⟨q,hq,rfl⟩)]
   rw [this]
   exact iO (fun v hk=>kput0 _ hk) h
 | slice esz i lo hi m=>
   simp only [ch.all,Xi,abZ,forall_eq_or_imp] at hl
   obtain ⟨h1,h2⟩:=hl
   simp only [bD] at h ⊢
   rw [h1,iu (fun i hi=>h2 i (.inl (.inl hi))),iu (fun i hi=>h2 i (.inl (.inr hi))),iu (fun i hi=>h2 i (.inr hi))]
   exact nz kput0 h
 | qP esz i lo hi m=>
   simp only [ch.all,Xi,abZ,forall_eq_or_imp] at hl
   obtain ⟨h1,h2⟩:=hl
   simp only [bD] at h ⊢
   rw [h1,iu (fun i hi=>h2 i (.inl (.inl hi))),iu (fun i hi=>h2 i (.inl (.inr hi))),iu (fun i hi=>h2 i (.inr hi))]
   exact ⟨h.1,vk (fun z hz=>⟨hz.1,kput0 _ hz.2⟩) h.2⟩
 | eD i lo hi=>
   simp only [ch.all,Xi,abZ,forall_eq_or_imp] at hl
   obtain ⟨h1,h2⟩:=hl
   simp only [bD] at h ⊢
   rw [h1,iu (fun i hi=>h2 i (.inl hi)),iu (fun i hi=>h2 i (.inr hi))]
   exact kV kput0 h
 | fn f first cap=>
   simp only [ch.all,abZ] at hl
   simp only [bD] at h ⊢
   rw [o8 (fun i hi=>hl i (.inl hi)) AV.ab,o8 (fun i hi=>hl i (.inr hi)) AV.ab]
   exact kput0 _ h
 | call f args pass=>
   simp only [ch.all,Xi,forall_eq_or_imp] at hl
   obtain ⟨h1,h2⟩:=hl
   simp only [bD,qz] at h ⊢
   rw [h1]
   split at h <;> try exact h.elim
   all_goals
   obtain ⟨bX,hle,hcall⟩:=h
   refine ⟨bX,?_,hcall.mono fun r H' hk=>?_⟩
   ·rw [pc h2];exact hle
   ·cases hp:bh args pass with
    | none=>
      rw [hp] at hk
      exact kput r H' (fun e=>by cases e) (fun e=>by cases e) hk
    | some s=>
      rw [hp] at hk
      have jS:IX.t s∈args∧s∈(ch.call f args pass).kill:=by
       unfold bh at hp
       simp only [ch.kill]
       split at hp
       ·rename_i j
        split at hp <;> cases hp
        rename_i hj
        try simp only [hj]
        exact ⟨abm hj,by simp⟩
       ·cases hp
      have hs:get cZ s=get env1 s:=h2 _ jS.1
      have e:∀ env:Env,get env s=get env1 s→put dst r (cL env (some s))=(put dst r [(s,(get env1 s).ab)])++env:=by
       intro env he
       cases dst <;> simp [put,cL,he]
      rw [e env1 rfl] at hk
      rw [e cZ hs]
      refine hK _ H' ?_ (fun e=>by cases e) (fun e=>by cases e) hk
      intro p Py
      cases dst with
      | none=>simp [put] at Py;subst Py;exact .inr jS.2
      | some d=>
        simp [put] at Py
        rcases Py with rfl | rfl
        ·left;rfl
        ·exact .inr jS.2
 | never=>exact h.elim
end Go.aI
end
section
namespace Go.aI
open Go
theorem c9 {env1 cZ:Env} (h:get env1=get cZ):∀ mods:List (Nat×AV),get (mods++env1)=get (mods++cZ)
 | []=>h
 | (k,v)::r=>by
   funext t
   simp only [List.cons_append,get]
   split
   ·rfl
   ·rw [c9 h r]
theorem qE {env1 cZ:Env} {t:Nat} (h:get env1 t=get cZ t):∀ mods:List (Nat×AV),get (mods++env1) t=get (mods++cZ) t
 | []=>h
 | (k,v)::r=>by
   simp only [List.cons_append,get]
   split
   ·rfl
   ·rw [qE h r]
theorem lY {env:Env} {t:Nat}:∀ {mods:List (Nat×AV)},(∀ p∈mods,p.1≠t)→get (mods++env) t=get env t
 | [],_=>rfl
 | (k,v)::r,h=>by
   simp only [List.cons_append,get]
   rw [if_neg (fun e=>h (k,v) (by simp) e.symm),lY (fun p hp=>h p (by simp [hp]))]
theorem JM {l:List IX} {s:Nat} (h:IX.t s∈l):s∈IX.SL l:=List.mem_filterMap.2 ⟨_,h,rfl⟩
theorem Gu {o:bH} {env1 cZ:Env} (hl:∀ s∈o.lk,get cZ s=get env1 s):∀ i∈o.op.all,au cZ i=au env1 i:=by
 intro i hi
 cases i with
 | c v=>rfl
 | t s=>exact hl s (List.mem_append_left _ (JM hi))
theorem get_guard {env:Env} {g:Nat} {b:Bool} (h:get env g=.bool b):get ((g,AV.bool b)::env)=get env:=by
 funext t
 simp only [get]
 split
 ·rename_i e;rw [e,h]
 ·rfl
theorem pM {P:Px} {o:bH} {env1 cZ:Env} {H:List aa} {K1 K2:Env→List aa→Prop} (hl:∀ s∈o.lk,get cZ s=get env1 s) (h:tM P o env1 H K1)
 (hK:∀ e1 e2 H',(∃ mods:List (Nat×AV),(∀ p∈mods,o.dst=some p.1∨p.1∈o.op.kill)∧get e1=get (mods++env1)∧get e2=get (mods++cZ))→(o.op.Ue=false→H'=H)→(o.op.Aa=true→∃ e,H'=H++e)→K1 e1 H'→K2 e2 H'):tM P o cZ H K2:=by
 unfold tM at *
 cases hg:o.g with
 | none=>
   simp only [hg] at h ⊢
   exact pL (Gu hl) h fun mods H' hm hc hg hk=>hK _ _ H' ⟨mods,hm,rfl,rfl⟩ hc hg hk
 | some p=>
   obtain ⟨g,want⟩:=p
   simp only [hg] at h ⊢
   unfold jo at *
   have wv:get cZ g=get env1 g:=hl g (by simp [bH.lk,hg])
   rw [wv]
   split at h
   rotate_left
   ·rename_i hb
    refine hK _ _ H ⟨(match o.dst with | some d=>[(d,.tuple [])] | none=>[]),?_,?_,?_⟩ (fun _=>rfl) (fun _=>⟨[],by simp⟩) h
    ·cases hd:o.dst <;> simp
    ·cases hd:o.dst <;> rfl
    ·cases hd:o.dst <;> rfl
   ·exact h.elim
   rename_i b hb
   have qx:get cZ g=.bool b:=by rw [wv,hb]
   refine ⟨fun e=>?_,fun e=>?_⟩
   ·subst e
    refine pL (env1:=(g,.bool b)::env1) (Gu (o:=o) fun s hs=>?_) (h.1 rfl) fun mods H' hm hc hg hk=>hK _ _ H' ⟨mods,hm,c9 (get_guard hb) mods,c9 (get_guard qx) mods⟩ hc hg hk
    rw [get_guard hb,get_guard qx]
    exact hl s hs
   ·have h2:=h.2 e
    subst e
    refine hK _ _ H ⟨(match o.dst with | some d=>[(d,.tuple [])] | none=>[]),?_,?_,?_⟩ (fun _=>rfl) (fun _=>⟨[],by simp⟩) h2
    ·cases hd:o.dst <;> simp
    ·cases hd:o.dst with
     | none=>exact get_guard hb
     | some d=>exact c9 (get_guard hb) [(d,.tuple [])]
    ·cases hd:o.dst with
     | none=>exact get_guard qx
     | some d=>exact c9 (get_guard qx) [(d,.tuple [])]
theorem sg {P:Px} {o:bH} {env:Env} {H:List aa} {K1 K2:Env→List aa→Prop} (h:tM P o env H K1)
 (hK:∀ e1 e2 H',get e1=get e2→K1 e1 H'→K2 e2 H'):tM P o env H K2:=
 pM (fun _ _=>rfl) h fun e1 e2 H' ⟨mods,_,h1,h2⟩ _ _ hk=>hK e1 e2 H' (h1.trans h2.symm) hk
section
variable {P:Px} {ops:Array Oper} {il:List bH} {K:Env→List aa→Prop}
def qA (P:Px) (il:List bH) (i:Nat) (env:Env) (H:List aa) (K:Env→List aa→Prop):Prop:=
 match il[i]? with
 | none=>K env H
 | some o=>tM P o env H K
def xr (P:Px) (ops:Array Oper) (il:List bH) (K:Env→List aa→Prop):Nat→Array Bool→Env→List aa→Prop
 | 0,listed,env,H=>Region.ready .any ops listed=[]∧K env H
 | f + 1,listed,env,H=>(Region.ready .any ops listed=[]→K env H)∧∀ i∈Region.ready .any ops listed,qA P il i env H (xr P ops il K f (listed.setIfInBounds i true))
def Inv (K:Env→List aa→Prop):Prop:=∀ e1 e2 H,get e1=get e2→K e1 H→K e2 H
theorem jq (hK:Inv K):∀ (f:Nat) (listed:Array Bool) {e1 e2:Env} {H:List aa},get e1=get e2→xr P ops il K f listed e1 H→xr P ops il K f listed e2 H
 | 0,_,_,_,_,he,h=>⟨h.1,hK _ _ _ he h.2⟩
 | f + 1,listed,e1,e2,H,he,h=>by
   refine ⟨fun h0=>hK _ _ _ he (h.1 h0),fun i hi=>?_⟩
   have hq:=h.2 i hi
   unfold qA at *
   split
   ·rename_i hn;simp only [hn] at hq;exact jq hK f _ he hq
   ·rename_i o ho
    simp only [ho] at hq
    exact pM (fun s _=>by rw [he]) hq fun a b H' ⟨mods,_,h1,h2⟩ _ _ hk=>jq hK f _ (by rw [h1,h2,c9 he]) hk
def X7 (P:Px) (st:Bool) (o:bH) (env:Env) (H:List aa) (x:AV):Prop:=
 ∃ ρ:IX→AV,(∀ i∈o.op.all,au env i=ρ i)∧match o.g with
  | none=>dv P st o.op ρ H x
  | some (g,want)=>(∃ b,get env g=.bool b∧(b=want→dv P st o.op ρ H x)∧(b≠want→x=.tuple []))∨(get env g=.tuple []∧x=.tuple [])
theorem Ih {st:Bool} {o:ch} {ρ:IX→AV} {H:List aa} {x:AV} (h:dv P st o ρ H x):di P o ρ H x:=by
 cases st
 ·exact h H
 ·exact h
theorem xt {H e:List aa} {id:Nat} {o:aa} (h:H[id]?=some o):(H++e)[id]?=some o:=by
 rw [zR (aa0.1 h).1,h]
theorem Gv {sz:Option Nat} {x:AV} {H e:List aa} {φ:AV→Prop} (h:aY sz x H φ):aY sz x (H++e) φ:=by
 unfold aY at *
 split at h
 ·split at h
  ·rename_i bn;rw [xt bn];exact h
  ·exact h.elim
 ·exact h
 ·exact h.elim
theorem JN {x:AV} {H e:List aa} {φ:AV→Prop} (h:fj x H φ):fj x (H++e) φ:=by
 unfold fj at *
 split at h <;> (try exact h)
 split at h
 ·rename_i bn;rw [xt bn];exact h
 ·exact h.elim
theorem BM {kd:Nat} {z m k:AV} {ok:Bool} {H e:List aa} {φ:AV→Prop} (h:cB kd z m k ok H φ):cB kd z m k ok (H++e) φ:=by
 unfold cB at *
 split at h <;> (try exact h)
 split at h
 ·rename_i bn;rw [xt bn];exact h
 ·exact h.elim
theorem Ae {o:ch} {ρ:IX→AV} {H e:List aa} {x:AV} (hs:o.stays=true) (h:di P o ρ H x):di P o ρ (H++e) x:=by
 cases o with
 | call f args pass=>cases hs
 | load sz i=>
   unfold di at h ⊢
   exact Gv h
 | len kd i=>
   unfold di at h ⊢
   exact ⟨h.1,JN h.2⟩
 | lookup kd z m k ok=>
   unfold di at h ⊢
   exact BM h
 | set i t=>cases t <;> exact h
 | _=>exact h
theorem DM {st:Bool} {o:ch} {ρ:IX→AV} {H H':List aa} {x:AV} (hH:st=true→H'=H∨(o.stays=true∧∃ e,H'=H++e)) (h:dv P st o ρ H x):dv P st o ρ H' x:=by
 cases st
 ·exact h
 ·rcases hH rfl with e | ⟨h1,e,he⟩
  ·rw [e];exact h
  ·rw [he];exact Ae h1 h
theorem JO {st:Bool} {o:bH} {env1 cZ:Env} {H1 H2:List aa} {x:AV} (hl:∀ s∈o.lk,get cZ s=get env1 s) (hH:st=true→H2=H1∨(o.op.stays=true∧∃ e,H2=H1++e)) (h:X7 P st o env1 H1 x):X7 P st o cZ H2 x:=by
 obtain ⟨ρ,h1,h2⟩:=h
 refine ⟨ρ,fun i hi=>(Gu hl i hi).trans (h1 i hi),?_⟩
 cases hg:o.g with
 | none=>simp only [hg] at h2 ⊢;exact DM hH h2
 | some p=>
   obtain ⟨g,want⟩:=p
   simp only [hg] at h2 ⊢
   rcases h2 with ⟨b,k1,k2,k3⟩ | ⟨k1,k2⟩
   ·exact .inl ⟨b,(hl g (by simp [bH.lk,hg])).trans k1,fun e=>DM hH (k2 e),k3⟩
   ·exact .inr ⟨(hl g (by simp [bH.lk,hg])).trans k1,k2⟩
theorem Ii {st:Bool} {o:bH} {env:Env} {H:List aa} {x:AV} (h:X7 P st o env H x):tM P o env H fun e H'=>H'=H∧get e=get (put o.dst x env):=by
 obtain ⟨ρ,h1,h2⟩:=h
 unfold tM
 cases hg:o.g with
 | none=>simp only [hg] at h2 ⊢;exact DJ (Ih h2) h1
 | some p=>
   obtain ⟨g,want⟩:=p
   simp only [hg] at h2 ⊢
   rcases h2 with ⟨b,k1,k2,k3⟩ | ⟨k1,k2⟩
   rotate_left
   ·unfold jo
    rw [k1]
    subst k2
    exact ⟨by simp,rfl⟩
   unfold jo
   rw [k1]
   refine ⟨fun e=>?_,fun e=>?_⟩
   ·subst e
    have OQ:=get_guard k1
    have:=DJ (dst:=o.dst) (env:=(g,.bool b)::env) (Ih (k2 rfl)) (fun i hi=>by
     rw [← h1 i hi]
     cases i with
     | c v=>rfl
     | t s=>show get _ s=get _ s;rw [OQ])
    refine pL (fun _ _=>rfl) this ?_
    intro mods H' _ _ _ hk
    refine ⟨hk.1,hk.2.trans ?_⟩
    rw [lA,lA,OQ]
   ·have dP:b≠want:=by intro e2;subst e2;cases b <;> cases e
    have hx:=k3 dP
    subst hx
    subst e
    exact ⟨by simp,by rw [lA,lA,get_guard k1]⟩
def closed (ops:Array Oper) (listed:Array Bool):Prop:=∀ k o,ops[k]?=some o→listed.getD k false=true→∀ e∈o.after,Region.binds .any e=true→listed.getD e.on false=true
theorem mA {listed:Array Bool} (hc:closed ops listed) {i:Nat}:∀ (f j:Nat) (oj:Oper),ops[j]?=some oj→(∀ e∈oj.after,Region.binds .any e=true→listed.getD e.on false=true)→dC ops f j i=true→listed.getD i false=true
 | 0,_,_,_,_,h=>by simp [dC] at h
 | f + 1,j,oj,hj,fU,h=>by
   simp only [dC,hj] at h
   obtain ⟨k,hk,he⟩:=Array.any_eq_true.1 h
   simp only [zU,acA,beq_iff_eq] at he
   have jS:oj.after[k]∈oj.after:=Array.getElem_mem hk
   have hl:=fU _ jS he.1
   rcases he.2 with e | e
   ·rw [← e];exact hl
   ·have hso:∃ o',ops[(oj.after[k]).on]?=some o':=by
     cases f with
     | zero=>simp [dC] at e
     | succ f=>
       cases ho:ops[(oj.after[k]).on]? with
       | none=>simp [dC,ho] at e
       | some o'=>exact ⟨o',rfl⟩
    obtain ⟨o',Uk⟩:=hso
    exact mA hc f _ o' Uk (hc _ _ Uk hl) e
theorem qV {listed:Array Bool} {i:Nat} (h:listed.getD i true=false):listed.getD i false=false:=by
 simp only [acd] at *
 cases hx:listed[i]? with
 | none=>rfl
 | some b=>rw [hx] at h;simpa using h
theorem qW {listed:Array Bool} (hc:closed ops listed) {j:Nat} (hj:j∈Region.ready .any ops listed):closed ops (listed.setIfInBounds j true):=by
 obtain ⟨_,oj,Uf,fU⟩:=mem_ready.1 hj
 intro k o ho hk e he hb
 refine getD_set_true ?_
 by_cases hkj:k=j
 ·subst hkj
  rw [Uf] at ho
  cases ho
  exact fU e he hb
 ·rw [getD_set_ne false (Ne.symm hkj)] at hk
  exact hc k o ho hk e he hb
theorem DN {listed:Array Bool} {i j:Nat} {st:Bool} (h:oY ops il listed i st=true) (hj:j < ops.size) (Ij:j≠i) (hun:listed.getD j true=false) (kq:dC ops ops.size j i=false):tN st (il.getD i default) (il.getD j default)=true:=by
 unfold oY at h
 have:=aaO.1 h j (acf.2 hj)
 simp only [acA,beq_iff_eq,hun,kq,acg,or_false] at this
 rcases this with e | e
 ·exact absurd e Ij
 ·exact e
theorem DO {listed:Array Bool} {i j:Nat} {st:Bool} (h:oY ops il listed i st=true):oY ops il (listed.setIfInBounds j true) i st=true:=by
 unfold oY at *
 refine aaO.2 fun k hk=>?_
 have:=aaO.1 h k hk
 simp only [acA] at this ⊢
 rcases this with ((e | e) | e) | e
 ·exact .inl (.inl (.inl e))
 ·refine .inl (.inl (.inr ?_))
  by_cases SK:j=k
  ·subst SK
   simp only [acd,adK]
   split
   ·split <;> simp
   ·rename_i dP;exact absurd trivial dP
  ·rw [getD_set_ne true SK];exact e
 ·exact .inl (.inr e)
 ·exact .inr e
theorem DP {st:Bool} {oi oj:bH} (h:tN st oi oj=true) :
 (∀ d,oi.dst=some d→d∉oj.lk∧oj.dst≠some d∧d∉oj.op.kill)∧(∀ d,oj.dst=some d→d∉oi.lk)∧(∀ s∈oj.op.kill,s∉oi.lk)∧(st=true→oj.op.Ue=false∨(oj.op.Aa=true∧oi.op.stays=true)):=by
 unfold tN at h
 simp only [zU,acA,abX] at h
 obtain ⟨⟨⟨h1,h2⟩,h3⟩,h4⟩:=h
 refine ⟨fun d hd=>?_,fun d hd=>?_,fun s hs=>?_,fun e=>?_⟩
 ·rw [hd] at h1
  simpa [and_assoc] using h1
 ·rw [hd] at h2
  simpa using h2
 ·have:=aaO.1 h3 s hs
  simpa using this
 ·rcases h4 with (e2 | e2) | e2
  ·rw [e] at e2;cases e2
  ·exact .inl e2
  ·exact .inr e2
theorem si {l:List bH} {i:Nat} {o:bH} (h:l[i]?=some o):l.getD i default=o:=by
 rw [tu,h];rfl
theorem JP (hK:Inv K) (de:il.length=ops.size) {i:Nat} {oi:bH} {x:AV} {st:Bool} (hi:il[i]?=some oi):∀ (f:Nat) (listed:Array Bool) {env:Env} {H:List aa},closed ops listed→oY ops il listed i st=true→i∈Region.ready .any ops listed→
 X7 P st oi env H x→xr P ops il K f (listed.setIfInBounds i true) (put oi.dst x env) H→xr P ops il K (f + 1) listed env H:=by
 intro f
 induction f with
 | zero=>
   intro listed env H jQ FN hr ht hD
   refine ⟨fun h=>(by rw [h] at hr;cases hr),fun j hj=>?_⟩
   by_cases Ij:j=i
   ·subst Ij
    unfold qA
    simp only [hi]
    exact sg (Ii ht) fun e1 e2 H' he ⟨h1,h2⟩=>by
     subst h1
     exact jq hK 0 _ (h2.symm.trans he) hD
   ·have:=ready_mono hj Ij
    rw [hD.1] at this
    cases this
 | succ f ih=>
   intro listed env H jQ FN hr ht hD
   refine ⟨fun h=>(by rw [h] at hr;cases hr),fun j hj=>?_⟩
   by_cases Ij:j=i
   ·subst Ij
    unfold qA
    simp only [hi]
    exact sg (Ii ht) fun e1 e2 H' he ⟨h1,h2⟩=>by
     subst h1
     exact jq hK (f + 1) _ (h2.symm.trans he) hD
   ·have h1:=hD.2 j (ready_mono hj Ij)
    obtain ⟨adl,oj',X8,fU⟩:=mem_ready.1 hj
    have hjs:j < ops.size:=(acn.1 X8).1
    have kq:dC ops ops.size j i=false:=by
     cases hma:dC ops ops.size j i with
     | false=>rfl
     | true=>
       have:=mA jQ _ j oj' X8 fU hma
       rw [qV (mem_ready.1 hr).1] at this
       cases this
    have X9:=DN FN hjs Ij adl kq
    rw [si hi] at X9
    unfold qA at *
    cases Uf:il[j]? with
    | none=>
      rw [List.getElem?_eq_none_iff] at Uf
      omega
    | some oj=>
      rw [si Uf] at X9
      obtain ⟨a1,a2,a3,a4⟩:=DP X9
      simp only [Uf] at h1 ⊢
      refine pM (env1:=put oi.dst x env) (fun s hs=>?_) h1 fun e1 e2 H' ⟨mods,hm,g1,g2⟩ hch hgr hk=>?_
      ·rw [lA]
       cases hd:oi.dst with
       | none=>rfl
       | some d=>
         simp only [Uj,fZ]
         rw [if_neg]
         intro e
         exact (a1 d hd).1 (e ▸ hs)
      ·have K7:∀ s∈oi.lk,∀ p∈mods,p.1≠s:=by
        intro s hs p hp e
        rcases hm p hp with h | h
        ·exact a2 _ h (e ▸ hs)
        ·exact a3 _ h (e ▸ hs)
       have hmd:∀ d,oi.dst=some d→∀ p∈mods,p.1≠d:=by
        intro d hd p hp e
        rcases hm p hp with h | h
        ·exact (a1 d hd).2.1 (e ▸ h)
        ·exact (a1 d hd).2.2 (e ▸ h)
       refine ih (listed.setIfInBounds j true) (qW jQ hj) (DO FN) (ready_mono hr (Ne.symm Ij)) ?_ ?_
       ·refine JO (fun s hs=>?_) (fun e=>(a4 e).imp hch fun ⟨q1,q2⟩=>⟨q2,hgr q1⟩) ht
        rw [g2]
        exact lY (K7 s hs)
       ·rw [Array.setIfInBounds_comm _ _ Ij]
        refine jq hK f _ ?_ hk
        rw [g1,lA,g2]
        cases hd:oi.dst with
        | none=>rfl
        | some d=>
          funext t
          simp only [Uj,fZ,put]
          by_cases htd:t=d
          ·subst htd
           rw [if_pos rfl,lY (hmd t hd)]
           simp [get]
          ·rw [if_neg htd]
           refine qE ?_ mods
           simp [get,htd]
theorem Pz (hK:Inv K) (de:il.length=ops.size):∀ (p:yX) (f:Nat) (listed:Array Bool) {env:Env} {H:List aa},closed ops listed→
 (vY ops il f listed none p=true→wu P (inst il p) env H K→xr P ops il K f listed env H)∧
 (∀ ks,(∀ i∈ks,i∈Region.ready .any ops listed)→vY ops il (f + 1) listed (some ks) p=true→wu P (inst il p) env H K→∀ i∈ks,qA P il i env H (xr P ops il K f (listed.setIfInBounds i true))):=by
 intro p
 induction p with
 | done=>
   intro f listed env H jQ
   refine ⟨fun h hd=>?_,fun ks _ h _ i hi=>?_⟩
   ·have:Region.ready .any ops listed=[]:=by
     cases f <;> simpa [vY,List.isEmpty_iff] using h
    simp only [inst,wu] at hd
    cases f with
    | zero=>exact ⟨this,hd⟩
    | succ f=>exact ⟨fun _=>hd,fun i hi=>by rw [this] at hi;cases hi⟩
   ·cases ks with
    | nil=>cases hi
    | cons k ks=>simp [vY] at h
 | nil=>
   intro f listed env H jQ
   refine ⟨fun h _=>by cases f <;> simp [vY] at h,fun ks _ h _ i hi=>?_⟩
   cases ks with
   | nil=>cases hi
   | cons k ks=>simp [vY] at h
 | take k st r ih=>
   intro f listed env H jQ
   refine ⟨fun h hd=>?_,fun ks _ h _ i hi=>?_⟩
   ·cases f with
    | zero=>simp [vY] at h
    | succ f=>
      simp only [vY,zU,List.contains_iff_mem] at h
      obtain ⟨⟨⟨hr,aiG⟩,FN⟩,hp⟩:=h
      obtain ⟨_,ok,jF,_⟩:=mem_ready.1 hr
      have Gb:k < il.length:=by rw [de];exact (acn.1 jF).1
      have Ph:il[k]?=some (il.getD k default):=by rw [tu,T1 Gb];rfl
      simp only [inst,wu,u0] at hd
      have fin:∀ x,X7 P st (il.getD k default) env H x→wu P (inst il r) (put (il.getD k default).dst x env) H K→xr P ops il K (f + 1) listed env H:=by
       intro x hx hrest
       exact JP hK de Ph f listed jQ FN hr hx ((ih f _ (qW jQ hr)).1 hp hrest)
      cases hg:(il.getD k default).g with
      | none=>
        simp only [hg] at hd
        obtain ⟨x,hx,hrest⟩:=hd
        exact fin x ⟨au env,fun _ _=>rfl,by simp only [hg];exact hx⟩ hrest
      | some gw=>
        obtain ⟨g,want⟩:=gw
        simp only [hg,jo] at hd
        split at hd
        rotate_left
        ·rename_i hb
         exact fin (.tuple []) ⟨au env,fun _ _=>rfl,by simp only [hg];exact .inr ⟨hb,by trivial⟩⟩ hd
        ·exact hd.elim
        rename_i b hb
        by_cases Ig:b=want
        ·obtain ⟨x,hx,hrest⟩:=hd.1 Ig
         exact fin x ⟨au env,fun _ _=>rfl,by simp only [hg];exact .inl ⟨b,hb,fun _=>hx,fun e=>absurd Ig e⟩⟩ hrest
        ·have hrest:=hd.2 (by cases b <;> cases want <;> first | rfl | exact absurd rfl Ig)
         exact fin (.tuple []) ⟨au env,fun _ _=>rfl,by simp only [hg];exact .inl ⟨b,hb,fun e=>absurd e Ig,fun _=>by trivial⟩⟩ hrest
   ·cases ks with
    | nil=>cases hi
    | cons k ks=>simp [vY] at h
 | br k t rest LM Ie=>
   intro f listed env H jQ
   have key:∀ (f:Nat) (ks:List Nat),(∀ i∈k::ks,i∈Region.ready .any ops listed)→vY ops il f (listed.setIfInBounds k true) none t=true→vY ops il (f + 1) listed (some ks) rest=true→wu P (inst il (.br k t rest)) env H K→
    ∀ i∈k::ks,qA P il i env H (xr P ops il K f (listed.setIfInBounds i true)):=by
    intro f ks Gb h1 h2 hd i hi
    simp only [inst,wu] at hd
    rcases Xi.1 hi with rfl | hi
    ·have hr:=Gb i (by simp)
     obtain ⟨_,ok,jF,_⟩:=mem_ready.1 hr
     have aP:i < il.length:=by rw [de];exact (acn.1 jF).1
     have Ph:il[i]?=some (il.getD i default):=by rw [tu,T1 aP];rfl
     unfold qA
     rw [Ph]
     exact sg hd.1 fun e1 e2 H' he hk=>jq hK f _ he ((LM f _ (qW jQ hr)).1 h1 hk)
    ·exact (Ie f listed jQ).2 ks (fun j hj=>Gb j (by simp [hj])) h2 hd.2 i hi
   refine ⟨fun h hd=>?_,fun ks Gb h hd i hi=>?_⟩
   ·cases f with
    | zero=>simp [vY] at h
    | succ f=>
      simp only [vY] at h
      split at h
      ·rename_i k' ks hrd
       simp only [zU,beq_iff_eq] at h
       obtain ⟨⟨rfl,h1⟩,h2⟩:=h
       have:=key f ks (fun i hi=>by rw [hrd];exact hi) h1 h2 hd
       exact ⟨(fun e=>by rw [e] at hrd;cases hrd),fun i hi=>this i (by rw [hrd] at hi;exact hi)⟩
      ·cases h
   ·cases ks with
    | nil=>cases hi
    | cons k' ks=>
      simp only [vY,zU,beq_iff_eq] at h
      obtain ⟨⟨rfl,h1⟩,h2⟩:=h
      exact key f ks Gb h1 h2 hd i hi
end
end Go.aI
end
section
namespace Go.aI
open Go
section
variable {ro:Option Nat} {P:Program} {lo:Option Nat} {A:Perm} {n:Nat}
theorem pd {ops:Array Oper} {an:C7} {rid:Nat}:∀ (fuel k:Nat) (l:List Oper) (il:List bH),fq P ops an n rid false fuel k l=some il→
 il.length=l.length∧∀ (j:Nat) (o:Oper),l[j]?=some o→∃ g,Ib ops o=some g∧Ia n o=true∧il[j]?=some ⟨g,o.dst,DD P o (an.at_ rid (k + j))⟩
 | _,_,[],il,hc=>by
   unfold fq at hc
   cases hc
   exact ⟨rfl,fun j o h=>by simp at h⟩
 | 0,_,o::r,il,hc=>by simp [fq] at hc
 | fuel + 1,k,o::r,il,hc=>by
   unfold fq at hc
   simp only [acg,and_false,if_false] at hc
   split at hc <;> try cases hc
   rename_i g xs hg eR
   split at hc <;> cases hc
   rename_i gV
   obtain ⟨h1,h2⟩:=pd fuel (k + 1) r xs eR
   refine ⟨by simp [h1],fun j o' hj=>?_⟩
   cases j with
   | zero=>
     simp at hj
     subst hj
     exact ⟨g,hg,gV,by simp⟩
   | succ j=>
     simp at hj
     obtain ⟨g',e1,e2,e3⟩:=h2 j o' hj
     exact ⟨g',e1,e2,by simp [e3,ado,afK 1 j]⟩
theorem vq {ops:Array Oper} {il:List bH} {an:C7} {rid:Nat} {L0:List Nat} {M0:Mem} {w0:World} {K:Env→List aa→Prop} {Q:Exit→Act→World→Prop}
 (hp:∀ l,lo=some l→∀ id,l≤id→A.top id=none) (hc:fq P ops an n rid false (ops.size + 1) 0 ops.toList=some il)
 (hF:∀ (M:Mem) (L:List Nat) (w:World) (H:List aa) (env:Env) (O:Pos→Option Nat) (a:Act),K env H→Fr A n M L w H env O a→Ext A M0 w0 M w→L0 <+: L→Q .normal a w) :
 ∀ (f:Nat) (listed:Array Bool) {M:Mem} {L:List Nat} {w:World} {H:List aa} {env:Env} {O:Pos→Option Nat} {a:Act},Fr A n M L w H env O a→Ext A M0 w0 M w→L0 <+: L→xr ⟨P,lo⟩ ops il K f listed env H→wpAnyIn (wf ro) 0 P .any ops Q f listed a w
 | 0,_,_,_,_,_,_,_,_,hf,cJ,hL,h=>⟨h.1,hF _ _ _ _ _ _ _ h.2 hf cJ hL⟩
 | f + 1,listed,M,L,w,H,env,O,a,hf,cJ,hL,h=>by
   refine ⟨fun h0=>hF _ _ _ _ _ _ _ (h.1 h0) hf cJ hL,fun i hi=>?_⟩
   have hq:=h.2 i hi
   unfold wpOpIn
   cases ho:ops[i]? with
   | none=>
     obtain ⟨_,o,Uk,_⟩:=mem_ready.1 hi
     rw [ho] at Uk;cases Uk
   | some o=>
     obtain ⟨g,hg,gV,y7⟩:=(pd _ _ _ _ hc).2 i o (by simpa using ho)
     unfold qA at hq
     rw [y7] at hq
     have hs:=Ac (ro:=ro) (ops:=ops) hg gV hp hf hq Q
     have hrest:∀ a' w',ow A n M L w (xr ⟨P,lo⟩ ops il K f (listed.setIfInBounds i true)) a' w'→wpAnyIn (wf ro) 0 P .any ops Q f (listed.setIfInBounds i true) a' w':=by
      rintro a' w' ⟨M',L',H',aK,O',k1,k2,k3,k4⟩
      exact vq hp hc hF f _ k2 (cJ.trans k3) (hL.trans k4) k1
     simp only
     split
     ·rename_i hw
      rw [if_pos hw] at hs
      exact Oper.wpIn_mono hrest hs
     ·rename_i hw
      rw [if_neg hw] at hs
      exact ⟨fun _ _=>trivial,hrest _ _ hs⟩
theorem JQ (L0:List Nat) (hp:∀ l,lo=some l→∀ id,l≤id→A.top id=none):Ad P ro lo A n L0:=by
 intro id ops il p live an M L w H env O a M0 w0 Q hm hB hc h hf cJ hL
 simp only [mX] at h
 have hK:Inv (fun (aK:Env) (H':List aa)=>∃ e,get e=get aK∧Q .normal (fa live e) H'):=fun e1 e2 H he ⟨e,h1,h2⟩=>⟨e,h1.trans he,h2⟩
 have de:il.length=ops.size:=by simpa using (pd _ _ _ _ hc).1
 have hB:=LL de p _ _ _ _ (JH _) (by simp) hB
 have jQ:closed ops (Array.replicate ops.size false):=by
  intro k o _ hk
  simp only [acd,afL] at hk
  split at hk <;> cases hk
 have hd:wu ⟨P,lo⟩ (inst il p) env H (fun (aK:Env) (H':List aa)=>∃ e,get e=get aK∧Q .normal (fa live e) H'):=by
  have mono:∀ (t:DT) (env:Env) (H:List aa) (K1 K2:Env→List aa→Prop),(∀ e H,K1 e H→K2 e H)→Inv K2→wu ⟨P,lo⟩ t env H K1→wu ⟨P,lo⟩ t env H K2:=by
   intro t
   induction t with
   | done=>intro env H K1 K2 hk _ h;exact hk _ _ h
   | nil=>intro _ _ _ _ _ _ _;trivial
   | take st o r ih=>
     intro env H K1 K2 hk hi h
     simp only [wu,u0] at h ⊢
     cases hg:o.g with
     | none=>
       simp only [hg] at h ⊢
       obtain ⟨x,hx,h⟩:=h
       exact ⟨x,hx,ih _ _ _ _ hk hi h⟩
     | some gw=>
       obtain ⟨g,want⟩:=gw
       simp only [hg,jo] at h ⊢
       split at h
       rotate_left
       ·exact ih _ _ _ _ hk hi h
       ·exact h.elim
       exact ⟨fun e=>let ⟨x,hx,h⟩:=h.1 e;⟨x,hx,ih _ _ _ _ hk hi h⟩,fun e=>ih _ _ _ _ hk hi (h.2 e)⟩
   | br o t rest LM Ie=>
     intro env H K1 K2 hk hi h
     have hinv:∀ K:Env→List aa→Prop,Inv K→∀ t,Inv fun env H=>wu ⟨P,lo⟩ t env H K:=by
      intro K hK t
      induction t with
      | done=>exact hK
      | nil=>intro _ _ _ _ _;trivial
      | take st o r ih=>
        intro e1 e2 H he h
        simp only [wu,u0] at h ⊢
        have hav:au e2=au e1:=by
         funext i
         cases i with
         | c v=>rfl
         | t s=>show get e2 s=get e1 s;rw [he]
        have oU:∀ x,get (put o.dst x e1)=get (put o.dst x e2):=fun x=>by rw [lA,lA,he]
        cases hg:o.g with
        | none=>
          simp only [hg] at h ⊢
          obtain ⟨x,hx,h⟩:=h
          exact ⟨x,by rw [hav];exact hx,ih _ _ _ (oU x) h⟩
        | some gw=>
          obtain ⟨g,want⟩:=gw
          simp only [hg,jo] at h ⊢
          rw [← he]
          split at h
          rotate_left
          ·exact ih _ _ _ (oU _) h
          ·exact h.elim
          exact ⟨fun e=>let ⟨x,hx,h⟩:=h.1 e;⟨x,by rw [hav];exact hx,ih _ _ _ (oU x) h⟩,fun e=>ih _ _ _ (oU _) (h.2 e)⟩
      | br o t rest LM Ie=>
        intro e1 e2 H he h
        exact ⟨pM (fun s _=>by rw [he]) h.1 fun a b H' ⟨mods,_,g1,g2⟩ _ _ hk=>LM _ _ _ (by rw [g1,g2,c9 he]) hk,Ie _ _ _ he h.2⟩
     exact ⟨sg h.1 fun e1 e2 H' he vr=>hinv K2 hi t _ _ _ he (LM _ _ _ _ hk hi vr),Ie _ _ _ _ hk hi h.2⟩
  exact mono _ _ _ _ _ (fun e H hq=>⟨e,rfl,hq⟩) hK h
 have hA:=(Pz (P:=⟨P,lo⟩) hK de p ops.size (Array.replicate ops.size false) (env:=env) (H:=H) jQ).1 hB hd
 refine wpIn_region_any hm (vq (M0:=M0) (w0:=w0) (L0:=L0) hp hc ?_ ops.size _ (M:=M) (L:=L) (H:=H) (env:=env) (O:=O) ⟨hf.st.drew,hf.size,hf.defers.ext (Ext.drew (M:=M))⟩ (cJ.trans Ext.drew) hL hA)
 rintro M' L' w' H' aK O' a' ⟨e,he,hq⟩ h2 h3 h4
 obtain ⟨O'',h5⟩:=(h2.Gm he).weaken (Ab live e)
 exact ⟨A,M',L',H',_,O'',.refl A,hq,h5,h3,h4⟩
theorem Gw {L0:List Nat} {an:C7} {lv:mf} {pl:mg} (c:Code) (ir:IR) (hc:comp P an lv pl n c=some ir) {M:Mem} {L:List Nat} {w:World} {H:List aa} {env:Env} {O:Pos→Option Nat} {a:Act} {Q:Exit→Env→List aa→Prop}
 (hA:gg lo L0.length A) (yV:Own ro w) (h:mX ⟨P,lo⟩ L0.length ir env H Q) (hf:Fr A n M L w H env O a) (hL:L0 <+: L):c.wpIn (wf ro) 0 P (Gl A n M L0 w Q) a w:=
 sound (fun A hA=>JQ L0 hA.opens) c ir hc hA yV h hf hL
end
end Go.aI
end
