/- Part 2 of 20 of the proof. -/
import Derived.Test.YtljchnfgjdjobaaGreatXaa
import Derived.RangeFuncNested
set_option linter.unusedVariables false
set_option linter.unusedSimpArgs false
set_option linter.defProp false
set_option linter.unusedSectionVars false
section
namespace Go.aI
open Go
def qC (xs:List AV) (H:List aa) (K:AV→List aa→Prop):Prop:=
 aw (H.length + 1) ((flat xs).map AV.ab)=true∧K (.aZ H.length 0 xs.length xs.length) (H++[.cells ((flat xs).map AV.ab)])
def cz (z:AV) (n:Nat):List AV:=flat (List.replicate n (bU z))
def b9 (esz bytes:Nat) (z s x:AV) (H:List aa) (K:AV→List aa→Prop):Prop:=
 match dK x with
 | none=>(match s,yT esz x H with
   | .aZ id off len cap,some (n,ys)=>match H[id]? with
     | some (.cells es)=>n * esz≤ys.length∧(ys.take (n * esz)).all AV.one=true∧len + n≤cap∧off + cap * esz≤es.length∧aw (id + 1) ((ys.take (n * esz)).map AV.ab)=true∧
        K (.aZ id off (len + n) cap) (H.set id (.cells (ai es (off + len * esz) ((ys.take (n * esz)).map AV.ab))))
     | _=>False
   | _,_=>False)
 | some ys=>qR esz ys∧match s with
   | .ag=>ys.length * bytes≤140737488355328∧(ys=[]→K .ag H)∧(ys≠[]→∀ cap,ys.length≤cap→cap < 9223372036854775808→
      aw (H.length + 1) ((flat ys).map AV.ab++cz z (cap - ys.length))=true∧K (.aZ H.length 0 ys.length cap) (H++[.cells ((flat ys).map AV.ab++cz z (cap - ys.length))]))
   | .oP=>ys.length * bytes≤140737488355328∧(ys=[]→K .oP H)∧(ys≠[]→∀ cap,ys.length≤cap→cap < 9223372036854775808→
      aw (H.length + 1) ((flat ys).map AV.ab++cz z (cap - ys.length))=true∧K (.aZ H.length 0 ys.length cap) (H++[.cells ((flat ys).map AV.ab++cz z (cap - ys.length))]))
   | .aZ id off len cap=>match H[id]? with
     | some (.cells es)=>(len + ys.length) * bytes≤140737488355328∧len≤cap∧off + cap * esz≤es.length∧
        (len + ys.length≤cap→aw (id + 1) ((flat ys).map AV.ab)=true∧K (.aZ id off (len + ys.length) cap) (H.set id (.cells (ai es (off + len * esz) ((flat ys).map AV.ab)))))∧
        (cap < len + ys.length→∀ c8,len + ys.length≤c8→c8 < 9223372036854775808→
          aw (H.length + 1) (((es.drop off).take (len * esz)).map AV.ab++(flat ys).map AV.ab++cz z (c8 - (len + ys.length)))=true∧
          K (.aZ H.length 0 (len + ys.length) c8) (H++[.cells (((es.drop off).take (len * esz)).map AV.ab++(flat ys).map AV.ab++cz z (c8 - (len + ys.length)))]))
     | _=>False
   | _=>False
def jN (lm:Nat→Nat) (esz bytes:Nat) (z s x:AV) (H:List aa) (K:AV→List aa→Prop):Prop:=
 match dK x with
 | none=>(match s,yT esz x H with
   | .aZ id off len cap,some (n,ys)=>match H[id]? with
     | some (.cells es)=>n * esz≤ys.length∧(ys.take (n * esz)).all AV.one=true∧len + n≤cap∧off + cap * esz≤es.length∧aw (lm id) ((ys.take (n * esz)).map AV.ab)=true∧
        K (.aZ id off (len + n) cap) (H.set id (.cells (ai es (off + len * esz) ((ys.take (n * esz)).map AV.ab))))
     | _=>False
   | _,_=>False)
 | some ys=>qR esz ys∧match s with
   | .ag=>ys.length * bytes≤140737488355328∧(ys=[]→K .ag H)∧(ys≠[]→∀ cap,ys.length≤cap→cap < 9223372036854775808→
      aw (H.length + 1) ((flat ys).map AV.ab++cz z (cap - ys.length))=true∧K (.aZ H.length 0 ys.length cap) (H++[.cells ((flat ys).map AV.ab++cz z (cap - ys.length))]))
   | .oP=>ys.length * bytes≤140737488355328∧(ys=[]→K .oP H)∧(ys≠[]→∀ cap,ys.length≤cap→cap < 9223372036854775808→
      aw (H.length + 1) ((flat ys).map AV.ab++cz z (cap - ys.length))=true∧K (.aZ H.length 0 ys.length cap) (H++[.cells ((flat ys).map AV.ab++cz z (cap - ys.length))]))
   | .aZ id off len cap=>match H[id]? with
     | some (.cells es)=>(len + ys.length) * bytes≤140737488355328∧len≤cap∧off + cap * esz≤es.length∧
        (len + ys.length≤cap→aw (lm id) ((flat ys).map AV.ab)=true∧K (.aZ id off (len + ys.length) cap) (H.set id (.cells (ai es (off + len * esz) ((flat ys).map AV.ab)))))∧
        (cap < len + ys.length→∀ c8,len + ys.length≤c8→c8 < 9223372036854775808→
          aw (H.length + 1) (((es.drop off).take (len * esz)).map AV.ab++(flat ys).map AV.ab++cz z (c8 - (len + ys.length)))=true∧
          K (.aZ H.length 0 (len + ys.length) c8) (H++[.cells (((es.drop off).take (len * esz)).map AV.ab++(flat ys).map AV.ab++cz z (c8 - (len + ys.length)))]))
     | _=>False
   | _=>False
theorem C5 (esz bytes:Nat) (z s x:AV) (H:List aa) (K:AV→List aa→Prop):b9 esz bytes z s x H K=jN (· + 1) esz bytes z s x H K:=rfl
def fL (lo esz bytes:Nat) (z s x:AV) (H:List aa) (K:AV→List aa→Prop):Prop:=
 (∀ id off len cap,s=.aZ id off len cap→lo≤id)∧jN (fun _=>H.length) esz bytes z s x H K
def jG (esz:Nat) (z x:AV) (H:List aa) (K:List aa→Prop):Prop:=
 match x with
 | .aZ id off len _=>match H[id]? with
   | some (.cells es)=>off + len * esz≤es.length∧(cz z len).all AV.one=true∧aw (id + 1) ((cz z len).map AV.ab)=true∧K (H.set id (.cells (ai es off ((cz z len).map AV.ab))))
   | _=>False
 | _=>False
section
variable {P:Program} {w:World} {M:Mem} {L:List Nat} {H:List aa} {A:Perm} {ev:Nat→Value} {ea:Nat→AV} {O:Pos→Option Nat}
theorem lY {α:Type} (es:List α) (off:Nat):ai es off []=es:=by simp [ai]
theorem St.C6 (hs:St A M L w H ev ea O) (cs:Array Value) (e:TypeId) {xs:List AV} (hr:aP M L cs.toList xs) (hb:aw (H.length + 1) xs=true) (hf:∀ y∈xs,∀ own zs,y=.al own zs→own=0) :
 St A M (L++[w.heap.size]) { w with heap:=w.heap.push (.cells cs e) } (H++[.cells xs]) ev ea O∧Ext A M w M { w with heap:=w.heap.push (.cells cs e) }:=
 hs.tA (.cells cs e) (.cells xs) (fun w' hw hM=>⟨_,e,hw,hr.mono (Mem.b8 M) ⟨_,rfl⟩,hM⟩) (by simpa [aa.bc] using hb) (fun j=>by
  simp only [oR]
  refine bm.free ?_
  intro own zs hh
  rw [th] at hh
  cases hx:xs[j]? with
  | none=>simp [hx] at hh
  | some y=>simp [hx] at hh;exact hf y (abB hx) own zs hh)
theorem oZ (xs:List AV):∀ y∈xs.map AV.ab,∀ own zs,y=.al own zs→own=0:=by
 intro y hy own zs e
 obtain ⟨q,_,rfl⟩:=aaw.1 hy
 exact AV.bR q own zs e
theorem FB {z:AV} (CY:∀ y∈z.cells,∀ own xs,y=.al own xs→own=0) (n:Nat):∀ y∈cz z n,∀ own zs,y=.al own zs→own=0:=by
 intro y hy own zs e
 simp only [cz,flat,abY] at hy
 obtain ⟨q,hq,Oz⟩:=hy
 rw [abX hq] at Oz
 subst e
 cases z <;> simp only [bU,AV.cells] at Oz CY
 case agg ys=>
  obtain ⟨y',_,hy'⟩:=aaw.1 Oz
  exact AV.kF y' own zs hy'
 all_goals exact CY _ Oz own zs rfl
theorem I4 (hs:St A M L w H ev ea O) {t e:TypeId} (ht:P.underlying t=some (.slice e)) {esz:Nat} (he:ey P e=some esz) (h0:0 < esz) {z:AV} (hz:fZ P e=some z) (gW:z.cells.length=esz) (qx:z.val=true)
 {len:Nat} (hlen:len * esz≤16777216) {parts:List (Nat×AV)} {vs:Array (Nat×Value)} (hp:∀ (j:Nat) (p:Nat×AV),parts[j]?=some p→∃ v,vs.toList[j]?=some (p.1,v)∧a7 M L v p.2) (hl:vs.toList.length=parts.length)
 {K:AV→List aa→Prop} (h:bi (List.replicate len (a9 z)) esz parts fun xs=>qC xs H K) :
 ∃ r x L' w' H',(Instr.buildSlice t len vs).run P w=.ok r w'∧a7 M L' r x∧(∀ own xs,x=.al own xs→own=0)∧K x H'∧St A M L' w' H' ev ea O∧Ext A M w M w'∧L <+: L':=by
 unfold fZ at hz
 obtain ⟨ie,KS,dd⟩:=aal.1 he
 simp only [KS] at hz
 split at hz
 ·rename_i zv tH
  have CR:=(cQ (M:=M) (L:=L) hz).a9.gU (tG qx)
  have vV:zv.cells.size=esz:=by have:=CR.length;rw [fI,gW] at this;simpa using this
  obtain ⟨cs',xs',f1,f2,f3,f4,f5⟩:=oW (M:=M) (L:=L) esz parts vs.toList hp hl (kP zv.cells esz len vV h0 (a9 z) CR) (fun y hy=>by rw [abX hy,fI];exact gW) h
  simp only [ach] at f4
  obtain ⟨nj,hK⟩:=f5
  have bK:(Instr.buildSlice t len vs).run P w=.ok (.slice (some ⟨w.heap.size,0,none⟩) len len) { w with heap:=w.heap.push (.cells cs' e) }:=by
   by_cases nC:len * ie.size=0
   ·have A6:len=0:=by
     rcases Nat.mul_eq_zero.1 nC with h' | h'
     ·exact h'
     ·omega
    subst A6
    have Kt:cs'=#[]:=by
     have:=f2.length
     rw [cR _ esz f3,f4] at this
     simp at this
     exact this
    have Wk:vs.toList=[]:=by
     cases wP:vs.toList with
     | nil=>rfl
     | cons q r=>
       rw [wP] at hl
       cases parts with
       | nil=>simp at hl
       | cons p ps=>obtain ⟨_,_,h3,_⟩:=h;simp at h3
    subst Kt
    have hf:Instr.fill (fun i=>some (i * ie.size,ie.size)) #[] vs.toList=some #[]:=by rw [Wk];rfl
    simp [Instr.buildSlice,run_underlying ht,sizeOf,typeInfo,KS,newRow,Wk,Instr.fill]
    congr 2
    apply Array.ext'
    simp
   ·rw [run_buildSlice w t e len vs cs' ie zv ht KS tH (by rw [dd];omega) nC (by rw [dd];exact f1)]
    rfl
  obtain ⟨g1,g2⟩:=hs.C6 cs' e f2.dm nj (oZ _)
  have hbd:len < 9223372036854775808:=by
   have:len≤len * esz:=ab5 _ h0
   omega
  refine ⟨_,.aZ H.length 0 len len,_,_,_,bK,.aZ w.heap.size 0 _ _ H.length ?_ hbd,(by intro _ _ e;cases e),by rw [f4] at hK;exact hK,g1,g2,⟨_,rfl⟩⟩
  rw [abx (by rw [hs.len];exact zy _),hs.len];simp
 ·cases hz
theorem rX (hs:St A M L w H ev ea O) {t ty e:TypeId} {i:TypeInfo} {zv:Value} {esz bytes:Nat} (ht:P.underlying t=some (.slice e)) (hi:P.info? e=some i) (hz:i.zero=some zv) (dd:i.size=esz) (rP:i.bytes=bytes) (h0:0 < esz) (rQ:0 < bytes)
 {z:AV} (Hq:ofValue zv=some z) (qx:z.val=true) (gW:z.cells.length=esz) (CY:∀ y∈z.cells,∀ own xs,y=.al own xs→own=0) {u v:Value} {s x:AV} {K:AV→List aa→Prop} {lm:Nat→Nat} (OC:∀ id off len cap,s=.aZ id off len cap→id < H.length→lm id≤A.jk H.length id) (h:jN lm esz bytes z s x H K) (hu:a7 M L u s) (hv:a7 M L v x) :
 ∃ r y L' w' H' O',(Builtin.append_ #[t,t] ty #[u,v]).run P w=.ok r w'∧a7 M L' r y∧(∀ own xs,y=.al own xs→own=0)∧K y H'∧St A M L' w' H' ev ea O'∧Ext A M w M w'∧L <+: L':=by
 unfold jN at h
 split at h
 ·-- out of an object
  rename_i hnone
  split at h <;> try exact h.elim
  rename_i id off len cap n ys wU
  split at h <;> try exact h.elim
  rename_i es bF
  obtain ⟨hny,lT,hroom,vC,nj,hK⟩:=h
  cases hu with
  | aZ b _ _ _ _ hl hc=>
  obtain ⟨cs,e',h1,h2,h3⟩:=fS hs bF hl
  have jY:=h2.length
  have yP:(len + n) * esz≤cap * esz:=acu _ hroom
  rw [abO] at yP
  unfold yT at wU
  split at wU
  ·simp [dK] at hnone
  ·simp [dK] at hnone
  ·rename_i id2 off2 Ww Wx
   split at wU <;> try cases wU
   rename_i es2 OD
   split at wU <;> cases wU
   rename_i hfit2
   cases hv with
   | aZ b2 _ _ _ _ lZ nG=>
   obtain ⟨cs2,e2,k1,k2,k3⟩:=fS hs OD lZ
   have aij:=k2.length
   by_cases CX:n=0
   ·subst CX
    simp only [afe,List.take_zero,List.map_nil,lY,af0] at hK
    have es':H.set id (.cells es)=H:=by
     obtain ⟨lW,e1⟩:=aa2.1 bF
     rw [← e1];simp
    rw [es'] at hK
    exact ⟨_,.aZ id off len cap,L,w,H,O,dJ ht hi w _ len cap (by omega) _ Wx,.aZ b off len cap id hl hc,(by intro _ _ e;cases e),hK,hs,Ext.refl A M w,aaD L⟩
   ·have vX:((cs2.toList.drop off2).take (n * esz)).length=n * esz:=by
     rw [abS,afD];omega
    have hnews:∀ j u,((cs2.toList.drop off2).take (n * esz))[j]?=some u→w.cell? ((⟨b2,off2,none⟩:Addr).add j)=some u:=fun j u hu=>by
     rw [Addr.add_lit];exact k3 _ _ (dI _ _ _ _ _ hu)
    have A9:aP M L ((cs2.toList.drop off2).take (n * esz)) ((es2.drop off2).take (n * esz)):=(k2.drop off2).take _
    have Wy:=A9.iO lT
    have bK:=gX (P:=P) (ty:=ty) ht hi w b off len cap cs (0,0) h1 (pJ _) ⟨b2,off2,none⟩ n Wx ((cs2.toList.drop off2).take (n * esz)) (by rw [dd];exact vX) hnews Wy hroom (by
     have:es.length=cs.size:=by rw [← jY];simp
     rw [dd,vX];omega)
    rw [dd] at bK
    obtain ⟨O',g1,g2⟩:=hs.Bf (off:=off + len * esz) bF hl h1 h2 A9 (by rw [abS,afD];omega) (bI (OC _ _ _ _ rfl (aS bF)) _ nj)
    exact ⟨_,.aZ id off (len + n) cap,L,_,_,O',bK,.aZ b off _ cap id hl hc,(by intro _ _ e;cases e),hK,g1,g2,aaD L⟩
  ·cases wU
 rename_i ys tu
 obtain ⟨kw,h⟩:=h
 have CR:=(cQ (M:=M) (L:=L) Hq).bU.gU (qS qx)
 have vV:zv.cells.size=esz:=by have:=CR.length;rw [kx,gW] at this;simpa using this
 have hesz0:esz≠0:=by omega
 have K5:∀ n,aP M L (Builtin.zeroCells zv.cells n).toList (cz z n):=fun n=>by
  have:=kP (M:=M) (L:=L) zv.cells esz n vV h0 (bU z) CR
  rw [Builtin.zeroCells,vV]
  rw [vV] at this
  exact this
 -- a new row
 have grow:∀ (olds news:List Value) (xs:List AV) (k need oldCap:Nat) (w':World),aP M L olds xs→aP M L news (flat ys)→need≤maxLen→
  w'=w.drew.alloc (.cells (olds.toArray++news.toArray++Builtin.zeroCells zv.cells (grownCap w need oldCap e - need)) e)→
  (Builtin.append_ #[t,t] ty #[u,v]).run P w=.ok (.slice (some ⟨w.heap.size,0,none⟩) need (grownCap w need oldCap e)) w'→
  (∀ c8,need≤c8→c8 < 9223372036854775808→aw (H.length + 1) (xs.map AV.ab++(flat ys).map AV.ab++cz z (c8 - need))=true∧K (.aZ H.length 0 need c8) (H++[.cells (xs.map AV.ab++(flat ys).map AV.ab++cz z (c8 - need))]))→
  ∃ r y L' w' H' O',(Builtin.append_ #[t,t] ty #[u,v]).run P w=.ok r w'∧a7 M L' r y∧(∀ own xs,y=.al own xs→own=0)∧K y H'∧St A M L' w' H' ev ea O'∧Ext A M w M w'∧L <+: L':=by
  intro olds news xs k need oldCap w' Wn A9 hneed KV bK hK
  have fV:=grownCap_ge w need oldCap e
  have hle:=grownCap_le_maxLen w need oldCap e hneed
  simp only [maxLen] at hle
  obtain ⟨nj,hK⟩:=hK _ fV (by omega)
  obtain ⟨g1,g2⟩:=hs.drew.C6 (olds.toArray++news.toArray++Builtin.zeroCells zv.cells (grownCap w need oldCap e - need)) e (xs:=xs.map AV.ab++(flat ys).map AV.ab++cz z (grownCap w need oldCap e - need))
   (by rw [agj,agj];exact (Wn.dm.append A9.dm).append (K5 _)) nj (by
     intro y hy
     rcases abF.1 hy with hy | hy
     ·rcases abF.1 hy with hy | hy
      ·exact oZ _ y hy
      ·exact oZ _ y hy
     ·exact FB CY _ y hy)
  subst KV
  refine ⟨_,.aZ H.length 0 need (grownCap w need oldCap e),L++[w.heap.size],_,_,O,bK,.aZ w.heap.size 0 _ _ H.length ?_ (by omega),(by intro _ _ e;cases e),hK,g1,Ext.drew.trans g2,⟨_,rfl⟩⟩
  rw [abx (by rw [hs.len];exact zy _),hs.len];simp
 split at h <;> try exact h.elim
 ·-- onto nothing
  obtain ⟨hbound,hn,hc⟩:=h
  cases hu
  rcases nE tu kw hv with ⟨rfl,b',c',rfl⟩ | ⟨CX,b2,o2,c2,news,rfl,A9,Re,vX⟩
  ·exact ⟨_,.ag,L,w,H,O,dJ ht hi w none 0 0 (zy _) b' c',.ag,(by intro _ _ e;cases e),hn rfl,hs,Ext.refl A M w,aaD L⟩
  ·have hnews:∀ j u,news[j]?=some u→w.cell? ((⟨b2,o2,none⟩:Addr).add j)=some u:=jt Re hs.mem
   have hlen:ys.length≤140737488355328:=abW (ab5 _ rQ) hbound
   have hbound':ys.length * i.bytes≤140737488355328:=by rw [rP];exact hbound
   have hr:=run_append_nil (P:=P) w t ty e i zv ht hi hz ⟨b2,o2,none⟩ ys.length c2 news (by rw [dd];exact vX) hnews CX (by omega) (by first | omega | (simp at hbound';omega))
   refine grow [] news [] 0 ys.length 0 _ .nil A9 (by simp only [maxLen];omega) rfl (by simpa using hr) fun c8 h1 h2=>?_
   have:=hc (by intro e;rw [e] at CX;simp at CX) c8 h1 h2
   simpa using this
 ·-- onto what is empty
  obtain ⟨hbound,hn,hc⟩:=h
  cases hu with
  | oP ad=>
  rcases nE tu kw hv with ⟨rfl,b',c',rfl⟩ | ⟨CX,b2,o2,c2,news,rfl,A9,Re,vX⟩
  ·exact ⟨_,.oP,L,w,H,O,dJ ht hi w ad 0 0 (zy _) b' c',.oP _,(by intro _ _ e;cases e),hn rfl,hs,Ext.refl A M w,aaD L⟩
  ·have hnews:∀ j u,news[j]?=some u→w.cell? ((⟨b2,o2,none⟩:Addr).add j)=some u:=jt Re hs.mem
   have hlen:ys.length≤140737488355328:=abW (ab5 _ rQ) hbound
   have hbound':ys.length * i.bytes≤140737488355328:=by rw [rP];exact hbound
   have hK:∀ c8,ys.length≤c8→c8 < 9223372036854775808→aw (H.length + 1) (([]:List AV).map AV.ab++(flat ys).map AV.ab++cz z (c8 - ys.length))=true∧K (.aZ H.length 0 ys.length c8) (H++[.cells (([]:List AV).map AV.ab++(flat ys).map AV.ab++cz z (c8 - ys.length))]):=fun c8 h1 h2=>by
    have:=hc (by intro e;rw [e] at CX;simp at CX) c8 h1 h2
    simpa using this
   cases ad with
   | none=>
     have hr:=run_append_nil (P:=P) w t ty e i zv ht hi hz ⟨b2,o2,none⟩ ys.length c2 news (by rw [dd];exact vX) hnews CX (by omega) (by first | omega | (simp at hbound';omega))
     exact grow [] news [] 0 ys.length 0 _ .nil A9 (by simp only [maxLen];omega) rfl (by simpa using hr) hK
   | some ad=>
     have hr:=run_append_grow (P:=P) w t ty e i zv ht hi hz ad 0 0 [] (by simp) (fun j v hv=>by simp at hv)
      ⟨b2,o2,none⟩ ys.length c2 news (by rw [dd];exact vX) hnews (by omega) (by omega) (growslice_fits (by omega) (by simpa using hbound'))
     simp only [abK] at hr
     exact grow [] news [] 0 ys.length 0 _ .nil A9 (by simp only [maxLen];omega) rfl hr hK
 ·rename_i id off len cap
  split at h <;> try exact h.elim
  rename_i es bF
  obtain ⟨hbound,zK,vC,ky,KJ⟩:=h
  cases hu with
  | aZ b _ _ _ _ hl hc=>
  obtain ⟨cs,e',h1,h2,h3⟩:=fS hs bF hl
  have jY:=h2.length
  rcases nE tu kw hv with ⟨rfl,b',c',rfl⟩ | ⟨CX,b2,o2,c2,news,rfl,A9,Re,vX⟩
  ·obtain ⟨_,hK⟩:=ky (by simpa using zK)
   simp only [flat,aga,List.map_nil,lY,List.length_nil,af0] at hK
   have es':H.set id (.cells es)=H:=by
    obtain ⟨lW,e1⟩:=aa2.1 bF
    rw [← e1];simp
   rw [es'] at hK
   exact ⟨_,.aZ id off len cap,L,w,H,O,dJ ht hi w _ len cap zK b' c',.aZ b off len cap id hl hc,(by intro _ _ e;cases e),hK,hs,Ext.refl A M w,aaD L⟩
  ·have hnews:∀ j u,news[j]?=some u→w.cell? ((⟨b2,o2,none⟩:Addr).add j)=some u:=jt Re hs.mem
   have lT:=A9.iO (CV kw)
   have OB:(flat ys).length=ys.length * esz:=cR ys esz (fun y hy=>(kw y hy).1)
   by_cases hroom:len + ys.length≤cap
   ·obtain ⟨nj,hK⟩:=ky hroom
    have yP:(len + ys.length) * esz≤cap * esz:=acu _ hroom
    rw [abO] at yP
    have aik:es.length=cs.size:=by rw [← jY];simp
    have bK:=gX (P:=P) (ty:=ty) ht hi w b off len cap cs (0,0) h1 (pJ _) ⟨b2,o2,none⟩ ys.length c2 news (by rw [dd];exact vX) hnews lT hroom (by rw [dd,vX];omega)
    rw [dd] at bK
    obtain ⟨O',g1,g2⟩:=hs.Bf (off:=off + len * esz) bF hl h1 h2 A9 (by rw [OB];omega) (bI (OC _ _ _ _ rfl (aS bF)) _ nj)
    exact ⟨_,.aZ id off (len + ys.length) cap,L,_,_,O',bK,.aZ b off _ cap id hl hc,(by intro _ _ e;cases e),hK,g1,g2,aaD L⟩
   ·have hlen:(len + ys.length)≤140737488355328:=abW (ab5 _ rQ) hbound
    have hbound':(len + ys.length) * i.bytes≤140737488355328:=by rw [rP];exact hbound
    have yP:len * esz≤cap * esz:=acu _ zK
    have acm:((cs.toList.drop off).take (len * esz)).length=len * esz:=by rw [abS,afD];omega
    have hr:=run_append_grow (P:=P) w t ty e i zv ht hi hz ⟨b,off,none⟩ len cap ((cs.toList.drop off).take (len * esz)) (by rw [dd];exact acm) (fun j v hv=>by rw [Addr.add_lit];exact h3 _ _ (dI _ _ _ _ _ hv))
     ⟨b2,o2,none⟩ ys.length c2 news (by rw [dd];exact vX) hnews (by omega) (by omega) (growslice_fits (by omega) hbound')
    exact grow _ news ((es.drop off).take (len * esz)) 0 (len + ys.length) cap _ ((h2.drop off).take _) A9 (by simp only [maxLen];omega) rfl hr fun c8 a b=>KJ (by omega) c8 a b
theorem Bh (hs:St A M L w H ev ea O) {t ty e:TypeId} {i:TypeInfo} {zv:Value} {esz bytes:Nat} (ht:P.underlying t=some (.slice e)) (hi:P.info? e=some i) (hz:i.zero=some zv) (dd:i.size=esz) (rP:i.bytes=bytes) (h0:0 < esz) (rQ:0 < bytes)
 {z:AV} (Hq:ofValue zv=some z) (qx:z.val=true) (gW:z.cells.length=esz) (CY:∀ y∈z.cells,∀ own xs,y=.al own xs→own=0) {u v:Value} {s x:AV} {K:AV→List aa→Prop} (h:b9 esz bytes z s x H K) (hu:a7 M L u s) (hv:a7 M L v x) :
 ∃ r y L' w' H' O',(Builtin.append_ #[t,t] ty #[u,v]).run P w=.ok r w'∧a7 M L' r y∧(∀ own xs,y=.al own xs→own=0)∧K y H'∧St A M L' w' H' ev ea O'∧Ext A M w M w'∧L <+: L':=by
 rw [C5] at h
 exact rX (ty:=ty) hs ht hi hz dd rP h0 rQ Hq qx gW CY (fun id _ _ _ _ bF=>A.lS bF) h hu hv
theorem Bi {lo:Nat} (tn:∀ id,lo≤id→A.top id=none) (hs:St A M L w H ev ea O) {t ty e:TypeId} {i:TypeInfo} {zv:Value} {esz bytes:Nat} (ht:P.underlying t=some (.slice e)) (hi:P.info? e=some i) (hz:i.zero=some zv) (dd:i.size=esz) (rP:i.bytes=bytes) (h0:0 < esz) (rQ:0 < bytes)
 {z:AV} (Hq:ofValue zv=some z) (qx:z.val=true) (gW:z.cells.length=esz) (CY:∀ y∈z.cells,∀ own xs,y=.al own xs→own=0) {u v:Value} {s x:AV} {K:AV→List aa→Prop} (h:fL lo esz bytes z s x H K) (hu:a7 M L u s) (hv:a7 M L v x) :
 ∃ r y L' w' H' O',(Builtin.append_ #[t,t] ty #[u,v]).run P w=.ok r w'∧a7 M L' r y∧(∀ own xs,y=.al own xs→own=0)∧K y H'∧St A M L' w' H' ev ea O'∧Ext A M w M w'∧L <+: L':=by
 refine rX (ty:=ty) hs ht hi hz dd rP h0 rQ Hq qx gW CY (fun id off len cap e bF=>?_) h.2 hu hv
 have:A.jk H.length id=H.length:=by unfold Perm.jk;rw [tn id (h.1 _ _ _ _ e)]
 rw [this];exact zy _
theorem C7 (hs:St A M L w H ev ea O) {t e:TypeId} {i:TypeInfo} {zv:Value} {esz:Nat} (ht:P.underlying t=some (.slice e)) (hi:P.info? e=some i) (hz:i.zero=some zv) (h0:0 < esz)
 {z:AV} (Hq:ofValue zv=some z) (qx:z.val=true) (gW:z.cells.length=esz) {v:Value} {x:AV} {K:List aa→Prop} (h:jG esz z x H K) (hv:a7 M L v x) (ty:TypeId) :
 ∃ w' H' O',(Builtin.clear_ #[t] ty #[v]).run P w=.ok (.tuple #[]) w'∧K H'∧St A M L w' H' ev ea O'∧Ext A M w M w':=by
 unfold jG at h
 split at h <;> try exact h.elim
 rename_i id off len cap
 split at h <;> try exact h.elim
 rename_i es bF
 obtain ⟨vC,lT,nj,hK⟩:=h
 cases hv with
 | aZ b _ _ _ _ hl hc=>
 have CR:=(cQ (M:=M) (L:=L) Hq).bU.gU (qS qx)
 have vV:zv.cells.size=esz:=by have:=CR.length;rw [kx,gW] at this;simpa using this
 have K5:aP M L (Builtin.zeroCells zv.cells len).toList (cz z len):=by
  have:=kP (M:=M) (L:=L) zv.cells esz len vV h0 (bU z) CR
  rw [Builtin.zeroCells,vV]
  rw [vV] at this
  exact this
 obtain ⟨cs,e',h1,h2,h3⟩:=hs.obj id _ b bF hl
 have jY:=h2.length
 have vU:(cz z len).length=len * esz:=by
  unfold cz
  rw [cR _ esz (fun y hy=>by rw [abX hy,kx];exact gW),ach]
 have rO:=K5.length
 by_cases A6:len=0
 ·subst A6
  have e0:cz z 0=[]:=rfl
  rw [e0] at hK
  simp only [List.map_nil,lY] at hK
  have es':H.set id (.cells es)=H:=by
   obtain ⟨lW,e1⟩:=aa2.1 bF
   rw [← e1];simp
  rw [es'] at hK
  refine ⟨w,H,O,?_,hK,hs,Ext.refl A M w⟩
  simp [Builtin.clear_,run_underlying ht]
 ·have bT:=run_storeCells_at P b off e' (Builtin.zeroCells zv.cells len).toList 0 cs w h1 (by simp at jY ⊢;simp at rO;omega) (K5.iO lT)
  obtain ⟨O',g1,g2⟩:=hs.KZ (off:=off) bF hl h1 h2 K5 (by omega) nj
  refine ⟨_,_,O',?_,hK,g1,g2⟩
  have nH:(storeCells ⟨b,off,none⟩ (Builtin.zeroCells zv.cells len).toList).run P w=.ok () (w.setRow b (ai cs.toList off (Builtin.zeroCells zv.cells len).toList).toArray):=by simpa [ai] using bT
  have hzero:(zeroValue e).run P w=.ok zv w:=by simp [zeroValue,typeInfo,hi,hz]
  have nC:∃ m,len=m + 1:=⟨len - 1,by omega⟩
  obtain ⟨m,rfl⟩:=nC
  simp [Builtin.clear_,run_underlying ht,hzero,nH]
end
end Go.aI
end
section
namespace Go.aI
open Go
def Perm.entry (A:Perm) (loose:Bool) (n:Nat):Prop:=(∀ id,id < n→∃ m,m≤n∧A.top id=some m)∧∀ id,n≤id→A.top id=if loose=true then none else some (id + 1)
def l7 (loose:Bool) (P:Program) (f:FuncId) (args:List AV) (H:List aa) (R:AV→List aa→Prop):Prop:=
 ∀ A M L w (vs:Array Value) O,A.entry loose H.length→vs.size=args.length→St A M L w H (fun t=>vs.getD t undef) (fun t=>args.getD t .any) O→
  ((callFunc f vs).run P w=.ok (.enter f vs) w∧Calls P f vs w fun e w'=>∃ v r H' M' L' O',e=.returned v∧R r H'∧St A M' L' w' H' (gR (fun _=>undef) 0 v) (gR (fun _=>.any) 0 r) O'∧Ext A M w M' w'∧L <+: L')∨
  (∃ v w' r H' M' L' O',(callFunc f vs).run P w=.ok (.value v) w'∧R r H'∧St A M' L' w' H' (gR (fun _=>undef) 0 v) (gR (fun _=>.any) 0 r) O'∧Ext A M w M' w'∧L <+: L')
def aA (P:Program) (f:FuncId) (args:List AV) (H:List aa) (R:AV→List aa→Prop):Prop:=l7 false P f args H R
def jH (P:Program) (f:FuncId) (args:List AV) (H:List aa) (R:AV→List aa→Prop):Prop:=l7 true P f args H R
theorem l7.mono {b:Bool} {P:Program} {f:FuncId} {args:List AV} {H:List aa} {R R':AV→List aa→Prop} (h:l7 b P f args H R) (hr:∀ r H',R r H'→R' r H'):l7 b P f args H R':=by
 intro A M L w vs O hA hs bT
 rcases h A M L w vs O hA hs bT with ⟨h1,h2⟩ | ⟨v,w',r,H',M',L',O',h1,h2,h3⟩
 ·exact .inl ⟨h1,h2.mono fun e w' ⟨v,r,H',M',L',O',h1,h2,h3⟩=>⟨v,r,H',M',L',O',h1,hr _ _ h2,h3⟩⟩
 ·exact .inr ⟨v,w',r,H',M',L',O',h1,hr _ _ h2,h3⟩
theorem aA.mono {P:Program} {f:FuncId} {args:List AV} {H:List aa} {R R':AV→List aa→Prop} (h:aA P f args H R) (hr:∀ r H',R r H'→R' r H'):aA P f args H R':=l7.mono h hr
theorem jH.mono {P:Program} {f:FuncId} {args:List AV} {H:List aa} {R R':AV→List aa→Prop} (h:jH P f args H R) (hr:∀ r H',R r H'→R' r H'):jH P f args H R':=l7.mono h hr
theorem aA.body {P:Program} {f:FuncId} {args:List AV} {H:List aa} {R:AV→List aa→Prop} (h:aA P f args H R) (he:∀ (as:Array Value) (w:World),(callFunc f as).run P w=.ok (.enter f as) w)
 {A:Perm} {M:Mem} {L:List Nat} {w:World} {vs:Array Value} {O:Pos→Option Nat} (hA:A.entry false H.length) (hs:vs.size=args.length) (bT:St A M L w H (fun t=>vs.getD t undef) (fun t=>args.getD t .any) O) :
 Calls P f vs w fun e w'=>∃ v r H' M' L' O',e=.returned v∧R r H'∧St A M' L' w' H' (gR (fun _=>undef) 0 v) (gR (fun _=>.any) 0 r) O'∧Ext A M w M' w'∧L <+: L':=by
 rcases h A M L w vs O hA hs bT with ⟨h1,h2⟩ | ⟨v,w',r,H',M',L',O',h1,h2,h3⟩
 ·exact h2
 ·rw [he] at h1;cases h1
structure Px where
 prog:Program
 lo:Option Nat
instance:Coe Program Px:=⟨fun P=>⟨P,none⟩⟩
def eD (P:Px) (f:FuncId) (args:List AV) (H:List aa) (R:AV→List aa→Prop):Prop:=
 match P.lo with
 | none=>aA P.prog f args H R
 | some l=>aA P.prog f args H R∨(l≤H.length∧jH P.prog f args H R)
theorem eD.of {P:Px} {f:FuncId} {args:List AV} {H:List aa} {R:AV→List aa→Prop} (h:aA P.prog f args H R):eD P f args H R:=by
 unfold eD;split
 ·exact h
 ·exact .inl h
theorem eD.ofL {P:Program} {l:Nat} {f:FuncId} {args:List AV} {H:List aa} {R:AV→List aa→Prop} (hl:l≤H.length) (h:jH P f args H R):eD ⟨P,some l⟩ f args H R:=.inr ⟨hl,h⟩
theorem eD.mono {P:Px} {f:FuncId} {args:List AV} {H:List aa} {R R':AV→List aa→Prop} (h:eD P f args H R) (hr:∀ r H',R r H'→R' r H'):eD P f args H R':=by
 unfold eD at *;split at h
 ·exact h.mono hr
 ·rcases h with h | ⟨h1,h2⟩
  ·exact .inl (h.mono hr)
  ·exact .inr ⟨h1,h2.mono hr⟩
def gK (loose:Bool) (P:Program) (id:Nat) (args:List AV) (H:List aa) (R:AV→List aa→Prop):Prop:=
 ∀ A M L w (vs:Array Value) O b,A.entry loose H.length→vs.size=args.length→L[id]?=some b→St A M L w H (fun t=>vs.getD t undef) (fun t=>args.getD t .any) O→
  ∃ fn tmps as bd,(Instr.yield b vs).run P w=.ok (.round b fn tmps as bd) w∧RoundIn Fence.wide 0 P b fn tmps as bd w fun e w'=>
   ∃ v r H' M' L' O',e=.returned v∧R r H'∧St A M' L' w' H' (gR (fun _=>undef) 0 v) (gR (fun _=>.any) 0 r) O'∧Ext A M w M' w'∧L <+: L'
theorem gK.mono {b:Bool} {P:Program} {id:Nat} {args:List AV} {H:List aa} {R R':AV→List aa→Prop} (h:gK b P id args H R) (hr:∀ r H',R r H'→R' r H'):gK b P id args H R':=by
 intro A M L w vs O c hA hs hc bT
 obtain ⟨fn,tmps,as,bd,h1,h2⟩:=h A M L w vs O c hA hs hc bT
 exact ⟨fn,tmps,as,bd,h1,h2.mono fun e w' ⟨v,r,H',M',L',O',h1,h2,h3⟩=>⟨v,r,H',M',L',O',h1,hr _ _ h2,h3⟩⟩
def l8 (P:Program) (id:Nat) (args:List AV) (H:List aa) (R:AV→List aa→Prop):Prop:=gK false P id args H R
def OE (P:Program) (id:Nat) (args:List AV) (H:List aa) (R:AV→List aa→Prop):Prop:=gK true P id args H R
def nK (P:Px) (id:Nat) (args:List AV) (H:List aa) (R:AV→List aa→Prop):Prop:=
 match P.lo with
 | none=>l8 P.prog id args H R
 | some l=>l8 P.prog id args H R∨(l≤H.length∧OE P.prog id args H R)
theorem nK.mono {P:Px} {id:Nat} {args:List AV} {H:List aa} {R R':AV→List aa→Prop} (h:nK P id args H R) (hr:∀ r H',R r H'→R' r H'):nK P id args H R':=by
 unfold nK at *;split at h
 ·exact gK.mono h hr
 ·rcases h with h | ⟨h1,h2⟩
  ·exact .inl (gK.mono h hr)
  ·exact .inr ⟨h1,gK.mono h2 hr⟩
def yU:List AV→List AV→Prop
 | [],[]=>True
 | x::xs,y::ys=>x.le y∧yU xs ys
 | _,_=>False
def aQ (env:Env) (pass:Option Nat):Nat→List IX→List AV
 | _,[]=>[]
 | j,.t s::xs=>(if pass=some j then get env s else (get env s).ab)::aQ env pass (j + 1) xs
 | j,.c v::xs=>v.ab::aQ env pass (j + 1) xs
def bn (args:List IX) (pass:Option Nat):Option Nat:=
 match pass with
 | some j=>match args[j]? with
   | some (.t s)=>some s
   | _=>none
 | none=>none
def dB (env:Env) (s:Option Nat):Env:=match s with | some d=>(d,(get env d).ab)::env | none=>env
def rY (P:Px) (f:AV) (args:List IX) (pass:Option Nat) (env:Env) (H:List aa) (K:AV→Env→List aa→Prop):Prop:=
 match f with
 | .fn (.func g) first cap=>∃ bV,yU (first.map AV.ab++aQ env pass 0 args++cap.map AV.ab) bV∧eD P g bV H (fun r H'=>K r (dB env (bn args pass)) H')
 | .qm id=>∃ bV,yU (aQ env pass 0 args) bV∧nK P id bV H (fun r H'=>K r (dB env (bn args pass)) H')
 | _=>False
def aO (kd:Nat) (x:AV):Prop:=
 match kd,x with
 | 0,.str _=>True
 | 1,.ag=>True
 | 1,.al _ _=>True
 | 1,.aZ _ _ _ _=>True
 | 1,.oP=>True
 | 2,.nr=>True
 | 2,.map _=>True
 | _,_=>False
def jO (env:Env) (x:Option IX):Option AV:=x.map (aE env)
def bE (P:Px) (o:cu) (dst:Option Nat) (env:Env) (H:List aa) (K:Env→List aa→Prop):Prop:=
 match o with
 | .set x take=>match dst with | some d=>K (wK env d x take) H | none=>K env H
 | .pick c a b=>fH (aE env c) fun q=>(q=true→K (put dst (aE env a).ab env) H)∧(q=false→K (put dst (aE env b).ab env) H)
 | .bin op x y=>dw op (aE env x) (aE env y) fun z=>K (put dst z env) H
 | .shift op x y=>eX op (aE env x) (aE env y) fun z=>K (put dst z env) H
 | .nu neq x y=>dA neq (aE env x) (aE env y) fun z=>K (put dst z env) H
 | .ou kd neq x=>dR kd neq (aE env x) fun z=>K (put dst z env) H
 | .un op x=>CM op (aE env x) fun z=>K (put dst z env) H
 | .box x=>(aE env x).val=true∧aw (H.length + 1) ((aE env x).cells.map AV.ab)=true∧K (put dst (.ptr H.length 0) env) (H++[.cells ((aE env x).cells.map AV.ab)])
 | .qQ x=>(aE env x).val=true∧K (put dst (.ah (aE env x)) env) H
 | .wG m x=>(aE env x).val=true∧(aE env x).cells.length=m∧(aE env x).cells.all AV.one=true∧K (put dst (.ah (aE env x)) env) H
 | .alloc z=>aw (H.length + 1) (z.cells.map AV.ab)=true∧K (put dst (.ptr H.length 0) env) (H++[.cells (z.cells.map AV.ab)])
 | .build z ps=>cr z.cells (ps.map fun q=>(q.1,q.2.1,aE env q.2.2)) fun v=>K (put dst v env) H
 | .buildSlice own esz z len ps=>bi (List.replicate len (a9 z)) esz (ps.map fun q=>(q.1,aE env q.2)) fun xs=>K (put dst (.al own xs) env) H
 | .load sz a=>a8 sz (aE env a) H fun z=>K (put dst z env) H
 | .zF sz esz a=>a8 sz (aE env a) H fun z=>jl esz z H fun y H'=>K (put dst y env) H'
 | .gv a=>match dst,aE env a with
   | some d,.ptr id off=>match H[id]? with
     | some (.cells es)=>off < es.length∧K ((d,es.getD off .any)::env) (H.set id (.cells (es.set off (es.getD off .any).ab)))
     | _=>False
   | _,_=>False
 | .store m a x=>kQ m (aE env a) (aE env x) H fun H'=>K env H'
 | .tB m a x=>match P.lo with | some l=>iU l m (aE env a) (aE env x) H fun H'=>K env H' | none=>False
 | .iQ a s=>fK (aE env a) (get env s) H fun H'=>K ((s,(get env s).ab)::env) H'
 | .nilCheck x=>cw (aE env x) fun z=>K (put dst z env) H
 | .fieldAddr off sz x=>au off sz (aE env x) fun z=>K (put dst z env) H
 | .field off sz x=>gV off sz (aE env x) fun z=>K (put dst z env) H
 | .indexAddr esz x i=>(∀ own xs,aE env x=.al own xs→∀ z∈xs,z.cells.length=esz)∧aG esz (aE env x) (aE env i) fun z=>K (put dst z env) H
 | .ff x i=>bX (aE env x) (aE env i) fun z=>K (put dst z env) H
 | .iR n x i=>cv n (aE env x) (aE env i) fun z=>K (put dst z env) H
 | .wH esz x lo hi mx=>(∀ own xs,aE env x=.al own xs→∀ z∈xs,z.cells.length=esz)∧gZ esz (aE env x) (jO env lo) (jO env hi) (jO env mx) fun z=>z=.al esz []∧K (put dst .oP env) H
 | .slice esz x lo hi mx=>bH esz (aE env x) (jO env lo) (jO env hi) (jO env mx) fun z=>K (put dst z env) H
 | .copy esz d s=>mC esz (aE env d) (aE env s) H fun z H'=>K (put dst z env) H'
 | .iS x lo hi=>db (aE env x) (jO env lo) (jO env hi) fun z=>K (put dst z env) H
 | .len kd x=>aO kd (aE env x)∧fR (aE env x) H fun z=>K (put dst z env) H
 | .append esz bytes s x=>bC esz bytes (aE env s) (aE env x) fun zs=>K (put dst (.al esz zs) (dB env s.slot)) H
 | .zG esz bytes z n=>gY esz bytes z (aE env n) H fun v H'=>K (put dst v env) H'
 | .wI esz bytes n=>lV esz bytes (aE env n) fun v=>K (put dst v env) H
 | .rT=>K (put dst (.map H.length) env) (H++[.map []])
 | .lookup kd z m k ok=>dg kd z (aE env m) (aE env k) ok H fun v=>K (put dst v env) H
 | .oS kd m k x=>iW kd (aE env m) (aE env k) (aE env x) H fun H'=>K env H'
 | .fn f first cap=>K (put dst (.fn f (first.map fun x=>(aE env x).ab) (cap.map fun x=>(aE env x).ab)) env) H
 | .extract x i=>bM (aE env x) i fun z=>K (put dst z env) H
 | .call f args pass=>rY P (aE env f) args pass env H fun r aW H'=>K (put dst r aW) H'
 | .jE k x=>dj k (aE env x) fun z=>K (put dst z env) H
 | .nv x=>jM (aE env x) fun z=>K (put dst z env) H
 | .bytesOf x=>iV 1 (aE env x) fun z=>K (put dst z env) H
 | .strOf x=>nF (aE env x) fun z=>K (put dst z env) H
 | .mx big a b=>A0 big (aE env a) (aE env b) fun z=>K (put dst z env) H
 | .Ff esz x=>jl esz (aE env x) H fun z H'=>K (put dst z env) H'
 | .IP esz z len ps=>bi (List.replicate len (a9 z)) esz (ps.map fun q=>(q.1,aE env q.2)) fun xs=>qC xs H fun v H'=>K (put dst v env) H'
 | .nw esz bytes z s x=>b9 esz bytes z (aE env s) (aE env x) H fun v H'=>K (put dst v env) H'
 | .nz esz bytes z s x=>match P.lo with | some l=>fL l esz bytes z (aE env s) (aE env x) H fun v H'=>K (put dst v env) H' | none=>False
 | .tC esz z x=>jG esz z (aE env x) H fun H'=>K (put dst (.tuple []) env) H'
 | .never=>False
def cA (P:Program) (e:TypeId):Option (Nat×AV):=
 match ey P e,fZ P e with
 | some esz,some z=>if 0 < esz∧z.cells.length=esz∧z.val=true then some (esz,z) else none
 | _,_=>none
def wW (P:Program) (e:TypeId):Option Nat:=(P.info? e).map (·.bytes)
def wX (z:AV):Bool:=z.cells.all fun y=>match y with | .al own _=>own == 0 | _=>true
def lH:Option Operand→Option (Option IX)
 | none=>some none
 | some x=>(aY x).map some
def K6 (x y:Operand):Bool:=match x,y with | .tmp a,.tmp b=>a == b | .const (.int .i64 a),.const (.int .i64 b)=>a == b | _,_=>false
def cE (P:Program) (o:Oper) (fl:Nat):Option cu:=
 match o.op with
 | .move x | .assign x=>(aY x).map fun i=>.set i (fl == 1)
 | .pick c a b=>match aY c,aY a,aY b with
   | some c,some a,some b=>some (.pick c a b)
   | _,_,_=>none
 | .binOp op t x y _=>match aY x,aY y with
   | some i,some j=>match op with
     | .shl | .shr=>some (.shift op i j)
     | .eql | .neq=>match P.underlying t with
       | some .bool=>some (.nu (op matches .neq) i j)
       | some (.int _) | some .string=>some (.bin op i j)
       | some (.slice _)=>match y with | .const (.slice none 0 0)=>some (.ou 0 (op matches .neq) i) | _=>none
       | some (.pointer _)=>match y with | .const (.pointer none)=>some (.ou 1 (op matches .neq) i) | _=>none
       | some (.map _ _)=>match y with | .const (.map none)=>some (.ou 2 (op matches .neq) i) | _=>none
       | some (.func _ _ _)=>match y with | .const .nilFunc=>some (.ou 3 (op matches .neq) i) | _=>none
       | _=>none
     | _=>some (.bin op i j)
   | _,_=>none
 | .unOp op _ x=>(aY x).map fun i=>.un op i
 | .box _ x=>(aY x).map fun i=>if fl=1 then .qQ i else .box i
 | .alloc e=>match fZ P e with
   | some z=>if z.val=true then some (.alloc z) else none
   | none=>none
 | .build t ps=>match Fk P t with
   | some (z,places)=>match fT places ps.toList with
     | some qs=>if z.val=true then some (.build z qs) else none
     | none=>none
   | none=>none
 | .buildSlice t len ps=>match P.underlying t with
   | some (.slice e)=>match cA P e,kO ps.toList with
     | some (esz,z),some qs=>if len * esz≤16777216 then some (if fl=2 then .IP esz z len qs else .buildSlice (if fl=1 then esz else 0) esz z len qs) else none
     | _,_=>none
   | _=>none
 | .load t a=>match Ks P t,aY a with
   | some sz,some i=>if fl=1 then (if sz=none then some (.gv i) else none) else if 3000 < fl then some (.zF sz (fl - 3000) i) else some (.load sz i)
   | _,_=>none
 | .store t a x=>match ey P t,aY a,aY x with
   | some m,some i,some j=>if fl=1 then (match j with | .t s=>if m=1 then some (.iQ i s) else none | _=>none) else if fl=2 then some (.tB m i j) else some (.store m i j)
   | _,_,_=>none
 | .nilCheck x=>(aY x).map .nilCheck
 | .fieldAddr s x f=>match tF P s f,aY x with
   | some (off,sz),some i=>some (.fieldAddr off sz i)
   | _,_=>none
 | .field s x f=>match tF P s f,aY x with
   | some (off,sz),some i=>some (.field off sz i)
   | _,_=>none
 | .indexAddr t x i=>match P.underlying t,aY x,aY i with
   | some (.slice e),some j,some k=>(ey P e).map fun esz=>.indexAddr esz j k
   | _,_,_=>none
 | .index t x i=>match P.underlying t,aY x,aY i with
   | some .string,some j,some k=>some (.ff j k)
   | some (.array n e),some j,some k=>if Ks P e=some none then some (.iR n j k) else none
   | _,_,_=>none
 | .slice t x lo hi mx=>match P.underlying t,aY x,lH lo,lH hi,lH mx with
   | some (.slice e),some i,some l,some h,some m=>match ey P e with
     | some esz=>if 0 < esz then some (if fl=4 then .wH esz i l h m else .slice esz i l h m) else none
     | none=>none
   | some .string,some i,some l,some h,some none=>some (.iS i l h)
   | _,_,_,_,_=>none
 | .makeSlice t l c=>match P.underlying t,aY c with
   | some (.slice e),some k=>match cA P e,wW P e with
     | some (esz,z),some bytes=>if 0 < bytes∧wX z=true then (match l with
        | .const (.int .i64 0)=>some (.wI esz bytes k)
        | _=>if K6 l c=true then some (.zG esz bytes z k) else none) else none
     | _,_=>none
   | _,_=>none
 | .makeMap _ none=>some .rT
 | .lookup t m k ok=>match P.underlying t,aY m,aY k with
   | some (.map kt et),some i,some j=>match pL P kt,fZ P et with
     | some kd,some z=>some (.lookup kd z i j ok)
     | _,_=>none
   | _,_,_=>none
 | .mapUpdate t m k x=>match P.underlying t,aY m,aY k,aY x with
   | some (.map kt _),some i,some j,some y=>(pL P kt).map fun kd=>.oS kd i j y
   | _,_,_,_=>none
 | .makeFunc f first cap=>match gn first.toList,gn cap.toList with
   | some i,some j=>some (.fn f i j)
   | _,_=>none
 | .extract x i=>(aY x).map fun j=>.extract j i
 | .convert src dst x=>match P.underlying src,P.underlying dst,aY x with
   | some (.int _),some (.int k),some i=>some (.jE k i)
   | some .string,some .string,some i=>some (.nv i)
   | some .string,some (.slice e),some i=>match P.underlying e with
     | some (.int .u8)=>some (.bytesOf i)
     | _=>none
   | some (.slice e),some .string,some i=>match P.underlying e with
     | some (.int .u8)=>some (.strOf i)
     | _=>none
   | _,_,_=>none
 | .call c=>match c.callee with
   | .value f=>match aY f,gn c.args.toList with
     | some i,some js=>some (.call i js (if fl=0 then none else some (fl - 1)))
     | _,_=>none
   | .builtin .len=>match c.args.toList,c.argTypes.toList with
     | [x],[t]=>match P.underlying t,aY x with
       | some .string,some i=>some (.len 0 i)
       | some (.slice _),some i=>some (.len 1 i)
       | some (.map _ _),some i=>some (.len 2 i)
       | _,_=>none
     | _,_=>none
   | .builtin .append=>match c.args.toList,c.argTypes.toList with
     | [s,x],[t,t']=>if t=t' then (match P.underlying t,aY s,aY x with
        | some (.slice e),some i,some j=>match cA P e,wW P e with
          | some (esz,z),some bytes=>if 0 < bytes then (if fl=2 then (if wX z=true then some (.nw esz bytes z i j) else none) else if fl=3 then (if wX z=true then some (.nz esz bytes z i j) else none) else some (.append esz bytes i j)) else none
          | _,_=>none
        | _,_,_=>none) else none
     | _,_=>none
   | .builtin .max=>match c.args.toList with
     | [x,y]=>match aY x,aY y with
       | some i,some j=>some (.mx true i j)
       | _,_=>none
     | _=>none
   | .builtin .min=>match c.args.toList with
     | [x,y]=>match aY x,aY y with
       | some i,some j=>some (.mx false i j)
       | _,_=>none
     | _=>none
   | _=>none
 | _=>none
def rZ (P:Program) (o:Oper):cu:=
 match o.op with
 | .call c=>match c.callee with
   | .builtin .copy=>match c.args.toList,c.argTypes.toList with
     | [s,x],[t,_]=>match P.underlying t,aY s,aY x with
        | some (.slice e),some i,some j=>match ey P e with
          | some esz=>.copy esz i j
          | none=>.never
        | _,_,_=>.never
     | _,_=>.never
   | .builtin .clear=>match c.args.toList,c.argTypes.toList with
     | [s],[t]=>match P.underlying t,aY s with
        | some (.slice e),some i=>match cA P e with
          | some (esz,z)=>.tC esz z i
          | none=>.never
        | _,_=>.never
     | _,_=>.never
   | _=>.never
 | _=>.never
def o6 (P:Program) (o:Oper):cu:=
 match o.op with
 | .move x | .assign x=>match aY x,P.underlying o.type with
   | some i,some (.slice e)=>match ey P e with
     | some esz=>.Ff esz i
     | none=>.never
   | _,_=>.never
 | _=>.never
def mD (esz:Nat) (o:Oper):cu:=
 match o.op with
 | .move x | .assign x=>match aY x with
   | some i=>.Ff esz i
   | none=>.never
 | _=>.never
def OF (o:Oper):Bool:=match o.op with | .load _ _=>false | _=>true
def C8 (P:Program) (o:Oper) (fl:Nat):cu:=if fl=3000 then o6 P o else if 3000 < fl∧OF o=true then mD (fl - 3000) o else (cE P o fl).getD (rZ P o)
end Go.aI
end
section
namespace Go.aI
open Go
section
variable {ro:Option Nat} {P:Program} {lo:Option Nat} {A:Perm} {n:Nat} {M:Mem} {L:List Nat} {w:World} {H:List aa} {env:Env} {O:Pos→Option Nat} {a:Act} {Q:Exit→Act→World→Prop} {K:Env→List aa→Prop}
theorem bS {o:Oper} (hf:Fr A n M L w H env O a) (hd:∀ d,o.dst=some d→d < n)
 (h:∃ r z,(execOp a.eval o).run P w=.ok (.value r) w∧a7 M L r z∧K (put o.dst z env) H∧∀ own xs,z=.al own xs→own=0):o.wpIn (wf ro) 0 P a w (oF A n M L w K) Q:=by
 obtain ⟨r,z,h1,h2,h3,h4⟩:=h
 exact wp_pure hf hd h1 h2 h4 h3
theorem bb {s:Sem Value} {r:Value} {w':World} (h:s.run P w=.ok r w'):(do pure (Next.value (← s)):Sem Next).run P w=.ok (.value r) w':=by
 simp only [Sem.run_bind,h,Result.andThen_ok,Sem.run_pure]
theorem sc {s:Sem Unit} {w':World} (h:s.run P w=.ok () w'):(do s;pure Next.skip:Sem Next).run P w=.ok .skip w':=by
 simp only [Sem.run_bind,h,Result.andThen_ok,Sem.run_pure]
theorem pN {o:Oper} (hf:Fr A n M L w H env O a) (hd:∀ d,o.dst=some d→d < n) {r:Value} {z:AV} {w':World} {M':Mem} {L':List Nat} {H':List aa} (bK:(execOp a.eval o).run P w=.ok (.value r) w')
 (hr:a7 M' L' r z) (hz:∀ own xs,z=.al own xs→own=0) (bT:St A M' L' w' H' (fun t=>a.tmps.getD t undef) (get env) O) (dS:Ext A M w M' w') (hL:L <+: L') (hK:K (put o.dst z env) H'):o.wpIn (wf ro) 0 P a w (oF A n M L w K) Q:=by
 obtain ⟨O',qo⟩:=(hf.mono bT dS).oQ hd hr hz
 exact di bK ⟨M',L',H',_,O',hK,qo,dS,hL⟩
theorem wY {o:Oper} {aW:Env} {O':Pos→Option Nat} (hf:Fr A n M L w H env O a) (hd:∀ d,o.dst=some d→d < n) {r:Value} {z:AV} {w':World} {M':Mem} {ob:Option Nat} (bK:(execOp a.eval o).run P w=.ok (.value r) w')
 (hr:a7 M' L r z) (Hl:bm M' w' r z ob) (bT:St A M' L w' H (fun t=>a.tmps.getD t undef) (get aW) O') (dS:Ext A M w M' w') (h1:∀ q b,ob=some b→O' q≠some b) (h2:∀ b,ob=some b→b∉L∧b < w'.heap.size∧A b) (hK:K (put o.dst z aW) H):o.wpIn (wf ro) 0 P a w (oF A n M L w K) Q:=by
 have qo:Fr A n M' L w' H aW O' a:=⟨bT,hf.size,hf.defers.ext dS⟩
 refine di bK ?_
 cases g9:o.dst with
 | none=>rw [g9] at hK;exact ⟨M',L,H,_,O',hK,qo,dS,aaD L⟩
 | some d=>
   rw [g9] at hK
   exact ⟨M',L,H,_,_,hK,qo.Fg (hd d g9) hr ob Hl (fun q b hb hq=>absurd hq (h1 q b hb)) h2,dS,aaD L⟩
theorem zS {o:Oper} {x:Operand} (ho:o.op=.move x∨o.op=.assign x) {i:IX} (hc:aY x=some i) {take:Bool} (hf:Fr A n M L w H env O a) (hd:∀ d,o.dst=some d→d < n)
 (h:bE ⟨P,lo⟩ (.set i take) o.dst env H K):o.wpIn (wf ro) 0 P a w (oF A n M L w K) Q:=by
 have bK:(execOp a.eval o).run P w=.ok (.value (a.eval x)) w:=by
  rcases ho with ho | ho <;> simp [execOp,ho]
 have hr:=hf.eval hc
 simp only [bE] at h
 cases g9:o.dst with
 | none=>
   rw [g9] at h
   refine di bK ⟨M,L,H,env,O,h,?_,Ext.refl A M w,aaD L⟩
   rw [g9];exact hf
 | some d=>
   rw [g9] at h
   have Wz:=hd d g9
   have h:K (wK env d i take) H:=h
   unfold wK at h
   split at h
   ·rename_i s _
    -- the list moves
    cases x with
    | tmp t=>
      have hts:t=s:=by simpa [aY] using hc
      subst hts
      have oX:=hf.st.oQ t (v:=a.tmps.getD t undef) (x:=(get env t).ab) (hf.st.env t).ab (AV.bR _)
      have Wl:gR (fun t=>a.tmps.getD t undef) t (a.tmps.getD t undef)=fun t=>a.tmps.getD t undef:=by funext t';simp only [gR];split;rename_i e0;rw [e0];rfl
      rw [Wl] at oX
      have E6:Fr A n M L w H ((t,(get env t).ab)::env) (eV O (.t t) none) a:=⟨oX,hf.size,hf.defers⟩
      have uP:=E6.Fg Wz (v:=a.tmps.getD t undef) (x:=get env t) (hf.st.env t) (O (.t t)) (hf.st.jX t) (fun p b hb hp=>by
       simp only [eV] at hp
       split at hp
       ·cases hp
       ·rename_i n';exact absurd (hf.st.cU _ _ b hp hb) n') (fun b hb=>⟨hf.st.cZ _ b hb,hf.st.iA _ b hb,hf.st.Oa _ b hb⟩)
      rw [← g9] at uP
      exact di bK ⟨M,L,H,_,_,h,uP,Ext.refl A M w,aaD L⟩
    | const v=>simp only [aY] at hc;obtain ⟨y,_,hy⟩:=aal.1 hc;cases hy
    | func f=>simp [aY] at hc
    | global g=>simp [aY] at hc
   ·have uP:=hf.Fg Wz hr.ab none (bm.free (AV.bR _)) (fun p b e=>by cases e) (fun b e=>by cases e)
    rw [← g9] at uP
    exact di bK ⟨M,L,H,_,_,h,uP,Ext.refl A M w,aaD L⟩
theorem wZ {o:Oper} {t:TypeId} {x:Operand} (ho:o.op=.load t x) (ht:Ks P t=some none) {i:IX} (hc:aY x=some i) (hf:Fr A n M L w H env O a) (hd:∀ d,o.dst=some d→d < n)
 (h:bE ⟨P,lo⟩ (.gv i) o.dst env H K):o.wpIn (wf ro) 0 P a w (oF A n M L w K) Q:=by
 have hr:=hf.eval hc
 simp only [bE] at h
 split at h <;> try exact h.elim
 rename_i d id off g9 hx
 split at h <;> try exact h.elim
 rename_i es bF
 obtain ⟨qn,hK⟩:=h
 rw [hx] at hr
 generalize hu:a.eval x=u at hr
 cases hr with
 | ptr b _ _ hl=>
 obtain ⟨cs,e,h1,h2,h3⟩:=fS hf.st bF hl
 have hlen:=h2.length
 obtain ⟨r1,r2⟩:=fh (w:=w) (m:=0) ht
 have zK:off < cs.toList.length:=by omega
 have hcell:=h3 off cs.toList[off] (by simp)
 have gr:=h2.getD off
 have e0:cs.toList.getD off undef=cs.toList[off]:=by rw [th,Hj zK];rfl
 rw [e0] at gr
 have bK:(execOp a.eval o).run P w=.ok (.value cs.toList[off]) w:=by
  simp only [execOp,ho,hu]
  exact bb (by simp only [Instr.loadAt,Instr.sureAddr,loadVar,Sem.run_bind,Sem.run_pure,Result.andThen_ok,r1,abI,if_false,run_load,hcell])
 have bT:=hf.st.IT bF hl qn
 have E6:Fr A n M L w (H.set id (.cells (es.set off (es.getD off .any).ab))) env (eV O (.c id off) none) a:=⟨bT,hf.size,hf.defers⟩
 have Hl:bm M w cs.toList[off] (es.getD off .any) (O (.c id off)):=by
  have h0:=hf.st.jD id off
  have e3:bW L w id off=cs.toList[off]:=by unfold bW;simp only [hl,hcell];rfl
  have e4:bB H id off=es.getD off .any:=by unfold bB;simp [bF]
  rwa [e3,e4] at h0
 have uP:=E6.Fg (hd d g9) gr (O (.c id off)) Hl (fun p b hb hp=>by
  simp only [eV] at hp
  split at hp
  ·cases hp
  ·rename_i n';exact absurd (hf.st.cU _ _ b hp hb) n') (fun b hb=>⟨hf.st.cZ _ b hb,hf.st.iA _ b hb,hf.st.Oa _ b hb⟩)
 rw [← g9] at uP
 exact di bK ⟨M,L,_,_,_,hK,uP,Ext.refl A M w,aaD L⟩
theorem yV {o:Oper} {t:TypeId} {x y:Operand} (ho:o.op=.store t x y) (ht:ey P t=some 1) {i:IX} {s:Nat} (hc:aY x=some i) (hy:aY y=some (.t s)) (hf:Fr A n M L w H env O a)
 (g9:o.dst=none) (h:bE ⟨P,lo⟩ (.iQ i s) o.dst env H K):o.wpIn (wf ro) 0 P a w (oF A n M L w K) Q:=by
 have hr:=hf.eval hc
 simp only [bE] at h
 have tu:y=.tmp s:=by
  cases y with
  | tmp t=>simp [aY] at hy;rw [hy]
  | const v=>simp only [aY] at hy;obtain ⟨z,_,hz⟩:=aal.1 hy;cases hz
  | func f=>simp [aY] at hy
  | global g=>simp [aY] at hy
 subst tu
 obtain ⟨w',H',O',h1,h2,h3,h4⟩:=A7 (P:=P) hf.st ht h hr s rfl rfl
 have bK:(execOp a.eval o).run P w=.ok .skip w':=by
  simp only [execOp,ho]
  exact sc h1
 have uP:Fr A n M L w' H' ((s,(get env s).ab)::env) O' (a.put o.dst undef):=by
  rw [g9];exact ⟨h3,hf.size,hf.defers.ext h4⟩
 exact nA bK ⟨M,L,H',_,O',h2,uP,h4,aaD L⟩
theorem Bj {o:Oper} {t e:TypeId} {s x:Operand} (ho:o.op=.call { callee:=.builtin .append,args:=#[s,x],argTypes:=#[t,t] }) (ht:P.underlying t=some (.slice e)) {esz bytes:Nat} {z:AV} (hz:cA P e=some (esz,z)) (hb:wW P e=some bytes) (rQ:0 < bytes)
 {i j:IX} (hi:aY s=some i) (hj:aY x=some j) (hf:Fr A n M L w H env O a) (hd:∀ d,o.dst=some d→d < n)
 (h:bE ⟨P,lo⟩ (.append esz bytes i j) o.dst env H K):o.wpIn (wf ro) 0 P a w (oF A n M L w K) Q:=by
 simp only [bE] at h
 have vG:=hf.eval hi
 have WA:=hf.eval hj
 unfold cA at hz
 split at hz <;> try cases hz
 rename_i esz' z' NY nG
 split at hz <;> cases hz
 rename_i hcond
 obtain ⟨h0,gW,qx⟩:=hcond
 obtain ⟨inf,iT,dd⟩:=aal.1 NY
 obtain ⟨inf',o7,rP⟩:=aal.1 hb
 rw [iT] at o7;cases o7
 unfold fZ at nG
 simp only [iT] at nG
 split at nG <;> try cases nG
 rename_i zv tH
 have vV:zv.cells.size=esz:=by have:=((cQ (M:=M) (L:=L) nG).gU qx).length;rw [gW] at this;simpa using this
 have Ox:match i.slot with | some d=>(fun t=>a.tmps.getD t undef) d=a.eval s∧get env d=aE env i | none=>aE env i=.ag:=by
  cases s with
  | tmp t=>simp [aY] at hi;subst hi;exact ⟨rfl,rfl⟩
  | const v=>
    simp only [aY] at hi
    obtain ⟨y,hy,rfl⟩:=aal.1 hi
    simp only [IX.slot,aE]
    have h2:=h
    simp only [aE,bC] at h2
    split at h2 <;> try exact h2.elim
    rename_i fe _
    unfold oY at fe
    split at fe
    ·rfl
    ·-- a constant is never an owned list
     exfalso
     unfold ofValue at hy
     split at hy
     ·obtain ⟨_,_,hq⟩:=aal.1 hy;cases hq
     ·unfold Wi at hy;split at hy <;> cases hy
    ·cases fe
  | func f=>
    simp [aY] at hi;subst hi
    simp only [aE,bC,oY] at h
  | global g=>simp [aY] at hi
 obtain ⟨r,w',M',O',ob,zs,g1,g2,g3,g4,g5,g6,g7,g8⟩:=CW (P:=P) (ty:=o.type) hf.st ht iT tH dd rP vV h0 rQ h i.slot vG Ox WA
 have bK:(execOp a.eval o).run P w=.ok (.value r) w':=by
  simp only [execOp,ho,resolve,invoke,builtin,Sem.run_bind,Sem.run_pure,Result.andThen_ok,adl,List.map_cons,List.map_nil,g1]
 have Fe:lU (get env) i.slot=get (dB env i.slot):=by
  cases i.slot with
  | none=>rfl
  | some d=>rfl
 rw [Fe] at g5
 exact wY hf hd bK g3 g4 g5 g6 g7 g8 g2
theorem yW {o:Oper} {t e:TypeId} {s x:Operand} (ho:o.op=.call { callee:=.builtin .append,args:=#[s,x],argTypes:=#[t,t] }) (ht:P.underlying t=some (.slice e)) {esz bytes:Nat} {z:AV} (hz:cA P e=some (esz,z)) (hb:wW P e=some bytes) (rQ:0 < bytes) (Bk:wX z=true)
 {i j:IX} (hi:aY s=some i) (hj:aY x=some j) (hf:Fr A n M L w H env O a) (hd:∀ d,o.dst=some d→d < n)
 (h:bE ⟨P,lo⟩ (.nw esz bytes z i j) o.dst env H K):o.wpIn (wf ro) 0 P a w (oF A n M L w K) Q:=by
 simp only [bE] at h
 have vG:=hf.eval hi
 have WA:=hf.eval hj
 unfold cA at hz
 split at hz <;> try cases hz
 rename_i esz' z' NY nG
 split at hz <;> cases hz
 rename_i hcond
 obtain ⟨h0,gW,qx⟩:=hcond
 obtain ⟨inf,iT,dd⟩:=aal.1 NY
 obtain ⟨inf',o7,rP⟩:=aal.1 hb
 rw [iT] at o7;cases o7
 unfold fZ at nG
 simp only [iT] at nG
 split at nG <;> try cases nG
 rename_i zv tH
 have CY:∀ y∈z.cells,∀ own xs,y=.al own xs→own=0:=by
  intro y hy own xs e
  have:=abc.1 Bk y hy
  subst e
  simpa using this
 obtain ⟨r,y,L',w',H',O',g1,g2,g3,g4,g5,g6,g7⟩:=Bh (P:=P) (ty:=o.type) hf.st ht iT tH dd rP h0 rQ nG qx gW CY h vG WA
 have bK:(execOp a.eval o).run P w=.ok (.value r) w':=by
  simp only [execOp,ho,resolve,invoke,builtin,Sem.run_bind,Sem.run_pure,Result.andThen_ok,adl,List.map_cons,List.map_nil,g1]
 have E6:Fr A n M L' w' H' env O' a:=⟨g5,hf.size,hf.defers.ext g6⟩
 obtain ⟨O'',qo⟩:=E6.oQ hd g2 g3
 exact di bK ⟨M,L',H',_,O'',g4,qo,g6,g7⟩
theorem yX {o:Oper} {t e:TypeId} {s x:Operand} (ho:o.op=.call { callee:=.builtin .append,args:=#[s,x],argTypes:=#[t,t] }) (ht:P.underlying t=some (.slice e)) {esz bytes:Nat} {z:AV} (hz:cA P e=some (esz,z)) (hb:wW P e=some bytes) (rQ:0 < bytes) (Bk:wX z=true)
 {i j:IX} (hi:aY s=some i) (hj:aY x=some j) (hf:Fr A n M L w H env O a) (hd:∀ d,o.dst=some d→d < n)
 (hp:∀ l,lo=some l→∀ id,l≤id→A.top id=none) (h:bE ⟨P,lo⟩ (.nz esz bytes z i j) o.dst env H K):o.wpIn (wf ro) 0 P a w (oF A n M L w K) Q:=by
 simp only [bE] at h
 split at h <;> try exact h.elim
 rename_i l
 have vG:=hf.eval hi
 have WA:=hf.eval hj
 unfold cA at hz
 split at hz <;> try cases hz
 rename_i esz' z' NY nG
 split at hz <;> cases hz
 rename_i hcond
 obtain ⟨h0,gW,qx⟩:=hcond
 obtain ⟨inf,iT,dd⟩:=aal.1 NY
 obtain ⟨inf',o7,rP⟩:=aal.1 hb
 rw [iT] at o7;cases o7
 unfold fZ at nG
 simp only [iT] at nG
 split at nG <;> try cases nG
 rename_i zv tH
 have CY:∀ y∈z.cells,∀ own xs,y=.al own xs→own=0:=by
  intro y hy own xs e
  have:=abc.1 Bk y hy
  subst e
  simpa using this
 obtain ⟨r,y,L',w',H',O',g1,g2,g3,g4,g5,g6,g7⟩:=Bi (P:=P) (ty:=o.type) (hp l rfl) hf.st ht iT tH dd rP h0 rQ nG qx gW CY h vG WA
 have bK:(execOp a.eval o).run P w=.ok (.value r) w':=by
  simp only [execOp,ho,resolve,invoke,builtin,Sem.run_bind,Sem.run_pure,Result.andThen_ok,adl,List.map_cons,List.map_nil,g1]
 have E6:Fr A n M L' w' H' env O' a:=⟨g5,hf.size,hf.defers.ext g6⟩
 obtain ⟨O'',qo⟩:=E6.oQ hd g2 g3
 exact di bK ⟨M,L',H',_,O'',g4,qo,g6,g7⟩
theorem Hr:∀ {xs ys:List AV},yU xs ys→xs.length=ys.length∧∀ t,(xs.getD t .any).le (ys.getD t .any)
 | [],[],_=>⟨rfl,fun t=>.inl rfl⟩
 | [],_::_,h=>h.elim
 | _::_,[],h=>h.elim
 | x::xs,y::ys,h=>by
   obtain ⟨h1,h2⟩:=h
   obtain ⟨i1,i2⟩:=Hr h2
   refine ⟨by simp [i1],fun t=>?_⟩
   cases t with
   | zero=>simpa using h1
   | succ t=>simpa using i2 t
theorem dW (env:Env) (pass:Option Nat):∀ (j:Nat) (xs:List IX),(aQ env pass j xs).length=xs.length
 | _,[]=>rfl
 | j,.t s::xs=>by simp [aQ,dW env pass (j + 1) xs]
 | j,.c v::xs=>by simp [aQ,dW env pass (j + 1) xs]
theorem kz (hf:Fr A n M L w H env O a) (pass:Option Nat):∀ {xs:List Operand} {is:List IX} (j:Nat),gn xs=some is→aP M L (xs.map a.eval) (aQ env pass j is)
 | [],is,j,hc=>by simp [gn] at hc;subst hc;exact .nil
 | x::xs,is,j,hc=>by
   unfold gn at hc
   split at hc
   ·rename_i i is' h1 h2
    cases hc
    have hr:=hf.eval h1
    cases i with
    | t s=>
      refine .cons _ _ _ _ ?_ (kz hf pass (j + 1) h2)
      split
      ·exact hr
      ·exact hr.ab
    | c v=>exact .cons _ _ _ _ hr.ab (kz hf pass (j + 1) h2)
   ·cases hc
def dO (A:Perm) (loose:Bool) (H:List aa) (L:List Nat) (O:Pos→Option Nat) (w:World):Perm where
 wr:=fun b=>b∈L∨(∃ p,O p=some b)∨w.heap.size≤b
 top:=fun id=>if id < H.length then some (A.jk H.length id) else if loose=true then none else some (id + 1)
 ok:=by
  intro id n h
  split at h
  ·rename_i h1
   cases h
   have:=A.lS h1
   omega
  ·split at h
   ·cases h
   ·cases h;omega
theorem l9 (A:Perm) (loose:Bool) (H:List aa) (L:List Nat) (O:Pos→Option Nat) (w:World):(dO A loose H L O w).entry loose H.length:=
 ⟨fun id h=>⟨A.jk H.length id,A.wE _ _,by simp only [dO,if_pos h]⟩,fun id h=>by simp only [dO];rw [if_neg (by omega)]⟩
theorem uQ (A:Perm) (loose:Bool) (H:List aa) (L:List Nat) (O:Pos→Option Nat) (w:World) {id:Nat} (h:id < H.length) (len:Nat):(dO A loose H L O w).jk len id=min (A.jk H.length id) len:=by
 unfold Perm.jk
 simp only [dO,if_pos h]
 rfl
theorem St.narrow {ev:Nat→Value} {ea:Nat→AV} (loose:Bool) (h:St A M L w H ev ea O):St (dO A loose H L O w) M L w H ev ea O:=
 { len:=h.len,nodup:=h.nodup,env:=h.env,mem:=h.mem,obj:=h.obj,lt:=h.lt,jX:=h.jX,jD:=h.jD,cU:=h.cU,cZ:=h.cZ,iA:=h.iA,
   bJ:=fun id o ho=>by
    rw [uQ A loose H L O w (aS ho),Nat.min_eq_left (A.wE _ _)]
    exact h.bJ id o ho
   La:=fun b hb=>.inl hb,Oa:=fun p b hp=>.inr (.inl ⟨p,hp⟩),fresh:=fun b hb=>.inr (.inr hb) }
theorem St.sd {ev:Nat→Value} {ea:Nat→AV} (h:St A M L w H ev ea O) (ev':Nat→Value) (ea':Nat→AV) (hr:∀ t,a7 M L (ev' t) (ea' t)) (hx:∀ t own xs,ea' t=.al own xs→own=0) :
 St A M L w H ev' ea' (fun p=>match p with | .t _=>none | .c id j=>O (.c id j)):=by
 have hO:∀ (p:Pos) (b:Nat),(match p with | .t _=>none | .c id j=>O (.c id j))=some b→O p=some b:=by
  intro p b hp
  cases p with
  | t t=>cases hp
  | c id j=>exact hp
 exact { len:=h.len,nodup:=h.nodup,env:=hr,mem:=h.mem,obj:=h.obj,bJ:=h.bJ,lt:=h.lt,jX:=fun t=>bm.free (hx t),jD:=h.jD,cU:=fun p q b hp hq=>h.cU p q b (hO p b hp) (hO q b hq),
         cZ:=fun p b hp=>h.cZ p b (hO p b hp),iA:=fun p b hp=>h.iA p b (hO p b hp),La:=h.La,Oa:=fun p b hp=>h.Oa p b (hO p b hp),fresh:=h.fresh }
theorem St.I5 {ev:Nat→Value} {ea:Nat→AV} (h:St A M L w H ev ea O) {Oc:Pos→Option Nat} (pt:Option Nat) (loose:Bool) (tn:loose=true→∀ id,H.length≤id→A.top id=none) (hOc:∀ b,(∃ p,Oc p=some b)→(∃ id j,O (.c id j)=some b)∨∃ s,pt=some s∧O (.t s)=some b)
 {M':Mem} {L':List Nat} {w':World} {H':List aa} {v:Value} {r:AV} {O':Pos→Option Nat}
 (h':St (dO A loose H L Oc w) M' L' w' H' (gR (fun _=>undef) 0 v) (gR (fun _=>.any) 0 r) O') (dS:Ext (dO A loose H L Oc w) M w M' w') (hL:L <+: L') :
 ∃ O'',St A M' L' w' H' ev (lU ea pt) O''∧Ext A M w M' w'∧a7 M' L' v r∧bm M' w' v r (O' (.t 0))∧(∀ q b,O' (.t 0)=some b→O'' q≠some b)∧(∀ b,O' (.t 0)=some b→b∉L'∧b < w'.heap.size∧A b):=by
 have hlen:H.length≤H'.length:=by
  have:=hL.length_le
  rw [h.len,h'.len] at this
  exact this
 have hAc:∀ b,dO A loose H L Oc w b→A b:=by
  rintro b (hb | hb | hb)
  ·exact h.La b hb
  ·rcases hOc b hb with ⟨id,j,hq⟩ | ⟨s,_,hq⟩
   ·exact h.Oa _ b hq
   ·exact h.Oa _ b hq
  ·exact h.fresh b hb
 let O'':Pos→Option Nat:=fun p=>match p with
  | .t i=>if pt=some i then none else O (.t i)
  | .c id j=>O' (.c id j)
 -- what the caller keeps is not the callee's to write
 have mv:∀ i b,pt≠some i→O (.t i)=some b→¬ dO A loose H L Oc w b:=by
  rintro i b hi hb (hc | hc | hc)
  ·exact h.cZ _ b hb hc
  ·rcases hOc b hc with ⟨id,j,hq⟩ | ⟨s,hs,hq⟩
   ·have:=h.cU _ _ b hb hq;cases this
   ·have:=h.cU _ _ b hb hq;cases this;exact hi hs
  ·have:=h.iA _ b hb;omega
 have I6:∀ i b,O'' (.t i)=some b→pt≠some i∧O (.t i)=some b:=by
  intro i b hb
  simp only [O''] at hb
  split at hb
  ·cases hb
  ·rename_i hi;exact ⟨hi,hb⟩
 have SK:∀ i b p,O'' (.t i)=some b→O' p≠some b:=by
  intro i b p hb hp
  obtain ⟨h1,h2⟩:=I6 i b hb
  exact mv i b h1 h2 (h'.Oa p b hp)
 refine ⟨O'',{ len:=h'.len,nodup:=h'.nodup,env:=?_,mem:=h'.mem,obj:=h'.obj,bJ:=?_,lt:=h'.lt,jX:=?_,jD:=h'.jD,cU:=?_,cZ:=?_,iA:=?_,La:=fun b hb=>hAc b (h'.La b hb),Oa:=?_,fresh:=fun b hb=>h.fresh b (abW dS.size hb) },?_,?_,?_,?_,?_⟩
 ·intro t
  have:=(h.env t).mono dS.oD hL
  cases pt with
  | none=>exact this
  | some d=>
    simp only [lU,gR]
    split
    ·rename_i e0;subst e0;exact this.ab
    ·exact this
 ·intro id o ho
  have h1:=h'.bJ id o ho
  have hl:=aS ho
  by_cases e:id < H.length
  ·rw [uQ A loose H L Oc w e] at h1
   exact aa.cH (abW (afX _ _) (A.CJ hlen id)) o h1
  ·by_cases hx:loose=true
   ·have e1:A.jk H'.length id=H'.length:=by unfold Perm.jk;rw [tn hx id (by omega)]
    rw [e1]
    exact aa.cH (Perm.wE _ _ _) o h1
   ·have e1:(dO A loose H L Oc w).jk H'.length id=min (id + 1) H'.length:=by
     unfold Perm.jk
     simp only [dO,if_neg e,if_neg hx]
    rw [e1] at h1
    exact aa.cH (abW (afX _ _) (A.lS hl)) o h1
 ·intro t
  have h1:=h.jX t
  cases pt with
  | none=>
    exact h1.mono fun b hb=>dS.mv b (h.iA _ b hb) (mv t b (by simp) hb)
  | some d=>
    simp only [lU,gR,O'']
    by_cases e0:t=d
    ·subst e0
     simp only [if_true]
     exact bm.free (AV.bR _)
    ·have:¬ (some d=some t):=fun e=>e0 (by cases e;rfl)
     simp only [e0,this,if_false]
     exact h1.mono fun b hb=>dS.mv b (h.iA _ b hb) (mv t b this hb)
 ·intro p q b hp hq
  cases p with
  | t i=>
    cases q with
    | t j=>exact h.cU _ _ b (I6 i b hp).2 (I6 j b hq).2
    | c id j=>exact absurd hq (SK i b _ hp)
  | c id j=>
    cases q with
    | t i=>exact absurd hp (SK i b _ hq)
    | c id' j'=>exact h'.cU _ _ b hp hq
 ·intro p b hp hm
  cases p with
  | t i=>exact mv i b (I6 i b hp).1 (I6 i b hp).2 (h'.La b hm)
  | c id j=>exact h'.cZ _ b hp hm
 ·intro p b hp
  cases p with
  | t i=>exact afY (h.iA _ b (I6 i b hp).2) dS.size
  | c id j=>exact h'.iA _ b hp
 ·intro p b hp
  cases p with
  | t i=>exact h.Oa _ b (I6 i b hp).2
  | c id j=>exact hAc b (h'.Oa _ b hp)
 ·exact ⟨dS.oD,dS.size,dS.os,dS.tape,dS.output,fun b hb hA=>dS.mv b hb (fun hc=>hA (hAc b hc)),dS.loops⟩
 ·simpa [gR] using h'.env 0
 ·simpa [gR] using h'.jX 0
 ·intro q b hb hq
  cases q with
  | t i=>exact SK i b _ hq hb
  | c id j=>have:=h'.cU _ _ b hb hq;cases this
 ·intro b hb
  exact ⟨h'.cZ _ b hb,h'.iA _ b hb,hAc b (h'.Oa _ b hb)⟩
theorem gA (env:Env):∀ (xs:List IX) (j t:Nat),(aQ env none j xs).getD t .any=(match xs[t]? with | some x=>(aE env x).ab | none=>.any)
 | [],j,t=>by simp [aQ]
 | .t s::xs,j,0=>by simp [aQ,aE]
 | .c v::xs,j,0=>by simp [aQ,aE]
 | .t s::xs,j,t + 1=>by
   simp only [aQ,List.getD_cons_succ,List.getElem?_cons_succ]
   exact gA env xs (j + 1) t
 | .c v::xs,j,t + 1=>by
   simp only [aQ,List.getD_cons_succ,List.getElem?_cons_succ]
   exact gA env xs (j + 1) t
theorem gC (env:Env) (k:Nat):∀ (xs:List IX) (j t:Nat),(aQ env (some k) j xs).getD t .any=(match xs[t]? with | some (.t s)=>if k=j + t then get env s else (get env s).ab | some (.c v)=>v.ab | none=>.any)
 | [],j,t=>by simp [aQ]
 | .t s::xs,j,0=>by simp [aQ]
 | .c v::xs,j,0=>by simp [aQ]
 | .t s::xs,j,t + 1=>by
   simp only [aQ,List.getD_cons_succ,List.getElem?_cons_succ]
   rw [gC env k xs (j + 1) t,show j + 1 + t=j + (t + 1) by omega]
 | .c v::xs,j,t + 1=>by
   simp only [aQ,List.getD_cons_succ,List.getElem?_cons_succ]
   rw [gC env k xs (j + 1) t,show j + 1 + t=j + (t + 1) by omega]
theorem sf (vs:List Value) (t:Nat):vs.toArray.getD t undef=vs.getD t undef:=by
 simp [th]
theorem mE (xs ys zs:List AV) (t:Nat):(xs++ys++zs).getD t .any=if t < xs.length then xs.getD t .any else if t < xs.length + ys.length then ys.getD (t - xs.length) .any else zs.getD (t - xs.length - ys.length) .any:=by
 simp only [th,afC,aaj]
 by_cases h1:t < xs.length
 ·rw [if_pos (by omega),if_pos h1,if_pos h1]
 ·by_cases h2:t < xs.length + ys.length
  ·rw [if_pos h2,if_neg h1,if_neg h1,if_pos h2]
  ·rw [if_neg h2,if_neg h1,if_neg h2,Nat.sub_sub]
theorem tL {o:Oper} {xs:List Operand} {js:List IX} (VW:gn xs=some js) {pass:Option Nat} {fs cs:List Value} {first cap:List AV} (Bl:aP M L fs first) (tJ:aP M L cs cap) {bV:List AV}
 (hle:yU (first.map AV.ab++aQ env pass 0 js++cap.map AV.ab) bV) (hf:Fr A n M L w H env O a) (hd:∀ d,o.dst=some d→d < n) {loose:Bool} (tn:loose=true→∀ id,H.length≤id→A.top id=none) :
 ∃ Oc,(fs++xs.map a.eval++cs).length=bV.length∧St (dO A loose H L Oc w) M L w H (fun t=>(fs++xs.map a.eval++cs).toArray.getD t undef) (fun t=>bV.getD t .any) Oc∧
  ∀ (v:Value) (r:AV) (H':List aa) (M':Mem) (L':List Nat) (O':Pos→Option Nat) (w':World),K (put o.dst r (dB env (bn js pass))) H'→St (dO A loose H L Oc w) M' L' w' H' (gR (fun _=>undef) 0 v) (gR (fun _=>.any) 0 r) O'→Ext (dO A loose H L Oc w) M w M' w'→L <+: L'→
   oF A n M L w K (a.put o.dst v) w':=by
 have hrb:=kz hf pass 0 VW
 have acn:=kz hf none 0 VW
 obtain ⟨hlen,aco⟩:=Hr hle
 obtain ⟨vs,wP⟩:∃ vs:List Value,vs=fs++xs.map a.eval++cs:=⟨_,rfl⟩
 have hrv:aP M L vs (first.map AV.ab++aQ env pass 0 js++cap.map AV.ab):=by rw [wP];exact (Bl.dm.append hrb).append tJ.dm
 have acp:aP M L vs (first.map AV.ab++aQ env none 0 js++cap.map AV.ab):=by rw [wP];exact (Bl.dm.append acn).append tJ.dm
 have rO:vs.length=bV.length:=by rw [hrv.length];exact hlen
 -- the callee's state
 have acq:∃ Oc,St A M L w H (fun t=>vs.toArray.getD t undef) (fun t=>bV.getD t .any) Oc∧(∀ b,(∃ p,Oc p=some b)→(∃ id j,O (.c id j)=some b)∨∃ s,bn js pass=some s∧O (.t s)=some b):=by
  have hfree:∀ t own zs,(first.map AV.ab++aQ env none 0 js++cap.map AV.ab).getD t .any=.al own zs→own=0:=by
   intro t own zs he
   have hm:∀ (l:List AV) q,(l.map AV.ab).getD q .any=.al own zs→own=0:=by
    intro l q hq
    rw [th,abZ] at hq
    cases hx:l[q]? with
    | none=>simp [hx] at hq
    | some y=>simp [hx] at hq;exact AV.bR y own zs hq
   rw [mE] at he
   split at he
   ·exact hm _ _ he
   ·split at he
    ·rw [gA] at he
     split at he
     ·exact AV.bR _ own zs he
     ·cases he
    ·exact hm _ _ he
  have h0:=hf.st.sd (fun t=>vs.toArray.getD t undef) (fun t=>(first.map AV.ab++aQ env none 0 js++cap.map AV.ab).getD t .any) (fun t=>by rw [sf];exact acp.getD t) hfree
  -- then the one that is handed over
  have h1:∃ O1,St A M L w H (fun t=>vs.toArray.getD t undef) (fun t=>(first.map AV.ab++aQ env pass 0 js++cap.map AV.ab).getD t .any) O1∧(∀ b,(∃ p,O1 p=some b)→(∃ id j,O (.c id j)=some b)∨∃ s,bn js pass=some s∧O (.t s)=some b):=by
   cases qD:bn js pass with
   | none=>
     refine ⟨_,h0.congr (fun _=>rfl) (fun t=>?_),?_⟩
     ·rw [mE,mE,dW,dW]
      split
      ·rfl
      ·split
       ·cases pass with
        | none=>rfl
        | some k=>
          rw [gA,gC]
          unfold bn at qD
          simp only at qD
          cases hx:js[t - (first.map AV.ab).length]? with
          | none=>rfl
          | some x=>
            cases x with
            | c v=>rfl
            | t s=>
              simp only
              rw [if_neg]
              ·rfl
              ·intro e
               rw [abK] at e
               rw [e,hx] at qD
               simp at qD
       ·rfl
     ·rintro b ⟨p,hp⟩
      cases p with
      | t t=>cases hp
      | c id j=>exact .inl ⟨id,j,hp⟩
   | some s=>
     -- where it stands
     obtain ⟨k,rfl,Rg⟩:∃ k,pass=some k∧js[k]?=some (.t s):=by
      unfold bn at qD
      split at qD
      ·rename_i k
       split at qD
       ·rename_i s' SL;cases qD;exact ⟨k,rfl,SL⟩
       ·cases qD
      ·cases qD
     have sg:k < js.length:=aS Rg
     have hargs:∀ (xs:List Operand) (is:List IX),gn xs=some is→∀ (q s:Nat),is[q]?=some (IX.t s)→xs[q]?=some (Operand.tmp s):=by
      intro xs
      induction xs with
      | nil=>intro is hc q s hq;simp [gn] at hc;subst hc;simp at hq
      | cons x xs ih=>
        intro is hc q s hq
        unfold gn at hc
        split at hc
        ·rename_i i is' e1 e2
         cases hc
         cases q with
         | zero=>
           simp at hq;subst hq
           cases x with
           | tmp t=>simp [aY] at e1;simp [e1]
           | const v=>simp only [aY] at e1;obtain ⟨_,_,hz⟩:=aal.1 e1;cases hz
           | func f=>simp [aY] at e1
           | global g=>simp [aY] at e1
         | succ q=>simpa using ih is' e2 q s (by simpa using hq)
        ·cases hc
     have c9:=hargs _ _ VW k s Rg
     have nC:vs[first.length + k]?=some (a.tmps.getD s undef):=by
      have OB:fs.length=first.length:=Bl.length
      rw [wP]
      rw [abe,abx (by omega),OB,show first.length + k - first.length=k by omega,zz (by simpa using aS c9),abZ,c9]
      rfl
     have oX:=h0.put (first.length + k) (v:=a.tmps.getD s undef) (x:=get env s) (hf.st.env s) (O (.t s)) (hf.st.jX s) (fun p b hb hp=>by
      cases p with
      | t t=>cases hp
      | c id j=>have:=hf.st.cU _ _ b hb hp;cases this) (fun b hb=>⟨hf.st.cZ _ b hb,hf.st.iA _ b hb,hf.st.Oa _ b hb⟩)
     refine ⟨_,oX.congr (fun t=>?_) (fun t=>?_),?_⟩
     ·simp only [gR]
      split
      ·rename_i e;subst e
       rw [sf,th,nC];rfl
      ·rfl
     ·simp only [gR]
      rw [mE,mE,dW,dW]
      simp only [acz]
      by_cases e:t=first.length + k
      ·subst e
       rw [if_pos rfl,if_neg (by omega),if_pos (by omega),show first.length + k - first.length=k by omega,gC,Rg]
       simp
      ·rw [if_neg e]
       split
       ·rfl
       ·split
        ·rw [gA,gC]
         cases hx:js[t - first.length]? with
         | none=>rfl
         | some x=>
           cases x with
           | c v=>rfl
           | t s=>
             simp only
             rw [if_neg (by omega)]
             rfl
        ·rfl
     ·rintro b ⟨p,hp⟩
      simp only [eV] at hp
      split at hp
      ·exact .inr ⟨s,rfl,hp⟩
      ·cases p with
       | t t=>cases hp
       | c id j=>exact .inl ⟨id,j,hp⟩
  obtain ⟨O1,g1,g2⟩:=h1
  obtain ⟨O2,g3,g4⟩:=g1.Hm (ea':=fun t=>bV.getD t .any) aco
  exact ⟨O2,g3,fun b ⟨p,hp⟩=>g2 b ⟨p,g4 p b hp⟩⟩
 obtain ⟨Oc,bT,hOc⟩:=acq
 refine ⟨Oc,by rw [← wP];exact rO,by rw [← wP];exact bT.narrow loose,?_⟩
 intro v r H' M' L' O' w' hK nH dS hL
 obtain ⟨O'',k1,k2,k3,k4,k5,k6⟩:=hf.st.I5 (bn js pass) loose tn hOc nH dS hL
 have Fe:lU (get env) (bn js pass)=get (dB env (bn js pass)):=by
  cases bn js pass <;> rfl
 rw [Fe] at k1
 have qo:Fr A n M' L' w' H' (dB env (bn js pass)) O'' a:=⟨k1,hf.size,hf.defers.ext k2⟩
 show oF A n M L w K (a.put o.dst v) w'
 cases g9:o.dst with
 | none=>rw [g9] at hK;exact ⟨M',L',H',_,O'',hK,qo,k2,hL⟩
 | some d=>
   rw [g9] at hK
   exact ⟨M',L',H',_,_,hK,qo.Fg (hd d g9) k3 (O' (.t 0)) k4 (fun q b hb hq=>absurd hq (k5 q b hb)) k6,k2,hL⟩
theorem FC {o:Oper} {c:Call} (ho:o.op=.call c) {f:Operand} (oG:c.callee=.value f) {i:IX} {js:List IX} (Ht:aY f=some i) (VW:gn c.args.toList=some js) {pass:Option Nat}
 (hp:∀ l,lo=some l→∀ id,l≤id→A.top id=none) (hf:Fr A n M L w H env O a) (hd:∀ d,o.dst=some d→d < n) (h:bE ⟨P,lo⟩ (.call i js pass) o.dst env H K):o.wpIn (wf ro) 0 P a w (oF A n M L w K) Q:=by
 simp only [bE] at h
 have NZ:=hf.eval Ht
 unfold rY at h
 split at h <;> try exact h.elim
 ·rename_i g first cap WB
  obtain ⟨bV,hle,hcall⟩:=h
  rw [WB] at NZ
  generalize hu:a.eval f=u at NZ
  cases NZ with
  | fn _ fs cs _ _ Bl tJ=>
  obtain ⟨loose,tn,hcall⟩:∃ loose:Bool,(loose=true→∀ id,H.length≤id→A.top id=none)∧l7 loose P g bV H fun r H'=>K (put o.dst r (dB env (bn js pass))) H':=by
   unfold eD at hcall
   split at hcall
   ·exact ⟨false,by simp,hcall⟩
   ·rename_i l hl
    rcases hcall with hcall | ⟨h1,hcall⟩
    ·exact ⟨false,by simp,hcall⟩
    ·exact ⟨true,fun _ id bF=>hp l hl id (by omega),hcall⟩
  obtain ⟨Oc,rO,bT,fin⟩:=tL (K:=K) (o:=o) VW Bl tJ hle hf hd tn
  obtain ⟨vs,wP⟩:∃ vs:List Value,vs=fs++c.args.toList.map a.eval++cs:=⟨_,rfl⟩
  rw [← wP] at rO bT
  have bK:(execOp a.eval o).run P w=(callFunc g vs.toArray).run P w:=by
   simp only [execOp,ho,resolve,oG,Deferred.ofValue,hu,invoke,Sem.run_bind,Sem.run_pure,Result.andThen_ok]
   have e1:(fs.toArray++c.args.map a.eval++cs.toArray)=vs.toArray:=by
    apply Array.ext';simp [wP]
   rw [e1]
  rcases hcall (dO A loose H L Oc w) M L w vs.toArray Oc (l9 A loose H L Oc w) (by simpa using rO) bT with ⟨h1,hc⟩ | ⟨v,w',r,H',M',L',O',h1,hK,nH,dS,hL⟩
  ·refine mw (bK.trans h1) (by intro d e;cases e) ⟨(fun h=>by cases h),?_⟩
   have nG:CallsIn (wf ro) (0 - 1) P g vs.toArray w _:=callsIn_wide.2 hc
   refine CallsIn.mono nG fun e w' he=>?_
   obtain ⟨v,r,H',M',L',O',rfl,hK,nH,dS,hL⟩:=he
   exact fin v r H' M' L' O' w' hK nH dS hL
  ·exact di (bK.trans h1) (fin v r H' M' L' O' w' hK nH dS hL)
 ·rename_i id WB
  obtain ⟨bV,hle,hcall⟩:=h
  rw [WB] at NZ
  generalize hu:a.eval f=u at NZ
  cases NZ with
  | qm b _ hl=>
  obtain ⟨loose,tn,hcall⟩:∃ loose:Bool,(loose=true→∀ id,H.length≤id→A.top id=none)∧gK loose P id bV H fun r H'=>K (put o.dst r (dB env (bn js pass))) H':=by
   unfold nK at hcall
   split at hcall
   ·exact ⟨false,by simp,hcall⟩
   ·rename_i l hl
    rcases hcall with hcall | ⟨h1,hcall⟩
    ·exact ⟨false,by simp,hcall⟩
    ·exact ⟨true,fun _ id bF=>hp l hl id (by omega),hcall⟩
  obtain ⟨Oc,rO,bT,fin⟩:=tL (K:=K) (o:=o) (fs:=[]) (cs:=[]) (first:=[]) (cap:=[]) VW .nil .nil (by simpa using hle) hf hd tn
  simp only [List.nil_append,abJ] at rO bT
  obtain ⟨fn,tmps,as,bd,h1,h2⟩:=hcall (dO A loose H L Oc w) M L w (c.args.toList.map a.eval).toArray Oc b (l9 A loose H L Oc w) (by simpa using rO) hl bT
  have bK:(execOp a.eval o).run P w=.ok (.round b fn tmps as bd) w:=by
   simp only [execOp,ho,resolve,oG,Deferred.ofValue,hu,invoke,Sem.run_bind,Sem.run_pure,Result.andThen_ok]
   have e1:(#[]++c.args.map a.eval:Array Value)=(c.args.toList.map a.eval).toArray:=by
    apply Array.ext';simp
   rw [e1]
   exact h1
  refine mw bK (by intro d e;cases e) ⟨(fun h=>by cases h),?_⟩
  have nG:RoundIn (wf ro) (0 - 1) P b fn tmps as bd w _:=h2
  refine RoundIn.mono nG fun e w' he=>?_
  obtain ⟨v,r,H',M',L',O',rfl,hK,nH,dS,hL⟩:=he
  exact fin v r H' M' L' O' w' hK nH dS hL
end
end Go.aI
end
section
namespace Go.aI
open Go
section
variable {ro:Option Nat} {P:Program} {lo:Option Nat} {A:Perm} {n:Nat} {M:Mem} {L:List Nat} {w:World} {H:List aa} {env:Env} {O:Pos→Option Nat} {a:Act} {Q:Exit→Act→World→Prop} {K:Env→List aa→Prop}
theorem pO {x:AV} {φ:Bool→Prop} (h:fH x φ):∃ b,x=.bool b∧φ b:=by
 unfold fH at h
 split at h
 ·exact ⟨_,rfl,h⟩
 ·exact h.elim
def jm (kd:Nat):Value:=match kd with | 0=>.slice none 0 0 | 1=>.pointer none | 2=>.map none | _=>.nilFunc
def si (kd:Nat) (D:TypeDesc):Bool:=match kd,D with | 0,.slice _=>true | 1,.pointer _=>true | 2,.map _ _=>true | 3,.func _ _ _=>true | _,_=>false
theorem vH {d kd:Nat} {t:TypeId} {D:TypeDesc} (ht:P.underlying t=some D) (hD:si kd D=true) {u:Value} {x:AV} {b:Bool} (hx:isNil kd x=some b) (hu:a7 M L u x):(Op.equalIn (d + 1) t u (jm kd)).run P w=.ok b w:=by
 unfold isNil at hx
 split at hx <;> cases hx <;> cases D <;> simp [si] at hD <;> cases hu <;> simp [Op.equalIn,run_underlying ht,jm]
theorem w7 {kd:Nat} {neq:Bool} {t:TypeId} {D:TypeDesc} (ht:P.underlying t=some D) (hD:si kd D=true) {u:Value} {x:AV} {φ:AV→Prop} (h:dR kd neq x φ) (hu:a7 M L u x) (X Y:Operand) :
 ∃ r z,(do eqGuard (if neq then .neq else .eql) t X Y u (jm kd);binOp (if neq then .neq else .eql) t u (jm kd):Sem Value).run P w=.ok r w∧a7 M L r z∧φ z∧∀ own xs,z=.al own xs→own=0:=by
 unfold dR at h
 split at h
 rotate_left
 ·split at h <;> try exact h.elim
  cases hu with
  | al b off c own e cs xs he hx hn hle hc hr hm=>simp at hn
  | iN ad c own hc=>
    have hDs:∃ e,D=.slice e:=by
     cases D <;> simp [si] at hD
     exact ⟨_,rfl⟩
    obtain ⟨e,rfl⟩:=hDs
    have he0:∀ d,(Op.equalIn (d + 1) t (.slice ad 0 c) (jm 0)).run P w=.ok (ad.isNone) w:=by
     intro d
     cases ad <;> simp [Op.equalIn,run_underlying ht,jm]
    have he:(Op.equal t (.slice ad 0 c) (jm 0)).run P w=.ok (ad.isNone) w:=he0 9999
    have hg:∀ op,(eqGuard op t X Y (.slice ad 0 c) (jm 0)).run P w=.ok () w:=by
     intro op
     unfold eqGuard;cases op <;> rfl
    have h1:binOp .eql t (.slice ad 0 c) (jm 0)=(Op.equal t (.slice ad 0 c) (jm 0) >>= fun q=>(pure (.bool q):Sem Value)):=rfl
    have h2:binOp .neq t (.slice ad 0 c) (jm 0)=(Op.equal t (.slice ad 0 c) (jm 0) >>= fun q=>(pure (.bool (!q)):Sem Value)):=rfl
    have hφ:∀ b,φ (.bool b):=fun b=>by cases b;exact h.2;exact h.1
    cases neq
    ·refine ⟨.bool ad.isNone,.bool ad.isNone,?_,.bool _,hφ _,by intro _ _ e;cases e⟩
     simp only [abI,if_false,Sem.run_bind,hg,Result.andThen_ok,h1,he,Sem.run_pure]
    ·refine ⟨.bool (!ad.isNone),.bool (!ad.isNone),?_,.bool _,hφ _,by intro _ _ e;cases e⟩
     simp only [if_true,Sem.run_bind,hg,Result.andThen_ok,h2,he,Sem.run_pure]
 rename_i b hb
 have he:(Op.equal t u (jm kd)).run P w=.ok b w:=vH (d:=9999) ht hD hb hu
 have hg:∀ op,(eqGuard op t X Y u (jm kd)).run P w=.ok () w:=by
  intro op
  unfold isNil at hb
  split at hb <;> cases hb <;> cases hu <;> (unfold eqGuard;cases op <;> rfl)
 have h1:binOp .eql t u (jm kd)=(Op.equal t u (jm kd) >>= fun q=>(pure (.bool q):Sem Value)):=by
  unfold isNil at hb
  split at hb <;> cases hb <;> cases hu <;> rfl
 have h2:binOp .neq t u (jm kd)=(Op.equal t u (jm kd) >>= fun q=>(pure (.bool (!q)):Sem Value)):=by
  unfold isNil at hb
  split at hb <;> cases hb <;> cases hu <;> rfl
 cases neq
 ·refine ⟨.bool b,.bool b,?_,.bool _,h,by intro _ _ e;cases e⟩
  simp only [abI,if_false,Sem.run_bind,hg,Result.andThen_ok,h1,he,Sem.run_pure]
 ·refine ⟨.bool (!b),.bool (!b),?_,.bool _,h,by intro _ _ e;cases e⟩
  simp only [if_true,Sem.run_bind,hg,Result.andThen_ok,h2,he,Sem.run_pure]
theorem w8 (hf:Fr A n M L w H env O a) {xs:List Operand} {is:List IX} (hc:gn xs=some is):aP M L (xs.map a.eval) (is.map fun x=>(aE env x).ab):=by
 have:=(hf.Rc hc).dm
 rwa [acH] at this
theorem cB (hf:Fr A n M L w H env O a) {x:Option Operand} {i:Option IX} (hc:lH x=some i):ke M L (jO env i) (x.map a.eval):=by
 cases x with
 | none=>simp [lH] at hc;subst hc;trivial
 | some x=>
   simp only [lH] at hc
   obtain ⟨j,hj,rfl⟩:=aal.1 hc
   exact hf.eval hj
theorem Hu {e:TypeId} {esz:Nat} {z:AV} (h:cA P e=some (esz,z)):ey P e=some esz∧fZ P e=some z∧0 < esz∧z.cells.length=esz∧z.val=true:=by
 unfold cA at h
 split at h <;> try cases h
 rename_i h1 h2
 split at h <;> cases h
 rename_i hc
 exact ⟨h1,h2,hc⟩
theorem I7 {x:AV} (h:aO 0 x):kc .string x=true:=by
 cases x <;> first | rfl | exact (show False from h).elim
theorem C9 {x:AV} (h:aO 1 x) (e:TypeId):kc (.slice e) x=true:=by
 cases x <;> first | rfl | exact (show False from h).elim
theorem I8 {x:AV} (h:aO 2 x) (k e:TypeId):kc (.map k e) x=true:=by
 cases x <;> first | rfl | exact (show False from h).elim
theorem K7 (o:Oper) {fl:Nat} {i:cu} (hc:cE P o fl=some i) (hp:∀ l,lo=some l→∀ id,l≤id→A.top id=none) (hf:Fr A n M L w H env O a) (hd:∀ d,o.dst=some d→d < n) (hnone:(match o.op with | .store .. | .mapUpdate ..=>o.dst=none | _=>True))
 (h:bE ⟨P,lo⟩ i o.dst env H K):o.wpIn (wf ro) 0 P a w (oF A n M L w K) Q:=by
 cases c9:o.op with
 | move x=>
   simp only [cE,c9] at hc
   obtain ⟨j,hj,rfl⟩:=aal.1 hc
   exact zS (.inl c9) hj hf hd h
 | assign x=>
   simp only [cE,c9] at hc
   obtain ⟨j,hj,rfl⟩:=aal.1 hc
   exact zS (.inr c9) hj hf hd h
 | pick c x y=>
   simp only [cE,c9] at hc
   split at hc <;> cases hc
   rename_i c' x' y' h1 h2 h3
   simp only [bE] at h
   obtain ⟨b,hb,h⟩:=pO h
   have hr:=hf.eval h1
   rw [hb] at hr
   generalize hu:a.eval c=u at hr
   cases hr
   cases b
   ·exact wp_pure hf hd (by simp [execOp,c9,hu,asBool]) (hf.eval h3).ab (AV.bR _) (h.2 rfl)
   ·exact wp_pure hf hd (by simp [execOp,c9,hu,asBool]) (hf.eval h2).ab (AV.bR _) (h.1 rfl)
 | alloc e=>
   simp only [cE,c9] at hc
   split at hc <;> try cases hc
   rename_i z hz
   split at hc <;> cases hc
   rename_i hv
   simp only [bE] at h
   obtain ⟨r,L',w',h1,h2,h3,h4,h5⟩:=Fj (P:=P) hf.st hz hv h.1
   exact pN hf hd (by simp only [execOp,c9];exact bb h1) h2 (by intro _ _ e;cases e) h3 h4 h5 h.2
 | box e x=>
   simp only [cE,c9] at hc
   obtain ⟨j,hj,hc⟩:=aal.1 hc
   split at hc <;> subst hc <;> simp only [bE] at h
   ·obtain ⟨r,M',w',h1,h2,h3,h4⟩:=IS (P:=P) hf.st e (hf.eval hj) h.1
    exact pN hf hd (by simp only [execOp,c9];exact bb h1) h2 (by intro _ _ e;cases e) h3 h4 (aaD L) h.2
   ·obtain ⟨r,L',w',h1,h2,h3,h4,h5⟩:=CO (P:=P) hf.st e (hf.eval hj) h.1 h.2.1
    exact pN hf hd (by simp only [execOp,c9];exact bb h1) h2 (by intro _ _ e;cases e) h3 h4 h5 h.2.2
 | build t ps=>
   simp only [cE,c9] at hc
   split at hc <;> try cases hc
   rename_i z places ht
   split at hc <;> try cases hc
   rename_i qs hq
   split at hc <;> cases hc
   rename_i hv
   simp only [bE] at h
   obtain ⟨r,x,h1,h2,h3,h4⟩:=Fl (P:=P) hf ht hq h hv
   exact wp_pure hf hd (by simp only [execOp,c9];exact bb h1) h2 h4 h3
 | buildSlice t len ps=>
   simp only [cE,c9] at hc
   split at hc <;> try cases hc
   rename_i e ht
   split at hc <;> try cases hc
   rename_i esz z qs hz hq
   split at hc <;> cases hc
   rename_i hlen
   obtain ⟨p1,p2,p3,p4,p5⟩:=Hu hz
   obtain ⟨q1,q2⟩:=ow hf _ _ hq
   by_cases WC:fl=2
   ·rw [if_pos WC] at h
    simp only [bE] at h
    obtain ⟨r,x,L',w',H',h1,h2,h3,h4,h5,h6,h7⟩:=I4 (P:=P) hf.st ht p1 p3 p2 p4 p5 hlen (vs:=ps.map fun (i,x)=>(i,a.eval x)) (by
     intro j p hp
     obtain ⟨v,v1,v2⟩:=q1 j p hp
     exact ⟨v,by simpa using v1,v2⟩) (by simp [q2]) h
    exact pN hf hd (by simp only [execOp,c9];exact bb h1) h2 h3 h5 h6 h7 h4
   rw [if_neg WC] at h
   simp only [bE] at h
   obtain ⟨m,xs,M',w',ad,h1,h2,h3,h4,h5,h6⟩:=vB (P:=P) hf.st ht p1 p3 p2 p4 p5 (if fl=1 then esz else 0) hlen (vs:=ps.map fun (i,x)=>(i,a.eval x)) (by
    intro j p hp
    obtain ⟨v,v1,v2⟩:=q1 j p hp
    exact ⟨v,by simpa using v1,v2⟩) (by simp [q2]) h
   obtain ⟨O',qo⟩:=(hf.mono h5 h6).Ho (dst:=o.dst) hd h2 (fun dP y hy=>by
    split at dP
    ·rename_i OB;rw [if_pos OB];exact h3 y hy
    ·exact absurd rfl dP)
   exact di (by simp only [execOp,c9];exact bb h1) ⟨M',L,H,_,O',h4,qo,h6,aaD L⟩
 | load t x=>
   simp only [cE,c9] at hc
   split at hc <;> try cases hc
   rename_i sz j ht hj
   split at hc
   ·split at hc <;> cases hc
    rename_i hs
    subst hs
    exact wZ c9 ht hj hf hd h
   split at hc
   ·cases hc
    simp only [bE] at h
    obtain ⟨r,z,h1,h2,h3,h4⟩:=tD (P:=P) ht hf.st h (hf.eval hj)
    obtain ⟨y,M',H',O',g1,g2,g3,g4,g5⟩:=tK hf.st h3 h2
    obtain ⟨O'',qo⟩:=(hf.mono g3 g4).oQ (dst:=o.dst) hd g1 g5
    exact di (by simp only [execOp,c9];exact bb h1) ⟨M',L,H',_,O'',g2,qo,g4,aaD L⟩
   ·cases hc
    simp only [bE] at h
    obtain ⟨r,z,h1,h2,h3,h4⟩:=tD (P:=P) ht hf.st h (hf.eval hj)
    exact bS hf hd ⟨r,z,by simp only [execOp,c9];exact bb h1,h2,h3,h4⟩
 | store t x y=>
   simp only [c9] at hnone
   simp only [cE,c9] at hc
   split at hc <;> try cases hc
   rename_i m j k ht hj hk
   split at hc
   ·split at hc <;> try cases hc
    rename_i s
    split at hc <;> cases hc
    rename_i hm
    subst hm
    exact yV c9 ht hj hk hf hnone h
   split at hc
   ·cases hc
    simp only [bE] at h
    obtain ⟨l,rfl⟩:∃ l,lo=some l:=by cases lo with | none=>exact h.elim | some l=>exact ⟨l,rfl⟩
    obtain ⟨w',H',O',h1,h2,h3,h4⟩:=CU (P:=P) hf.st (hp l rfl) ht h (hf.eval hj) (hf.eval hk)
    refine nA (by simp only [execOp,c9];exact sc h1) ⟨M,L,H',env,O',h2,?_,h4,aaD L⟩
    rw [hnone];exact ⟨h3,hf.size,hf.defers.ext h4⟩
   ·cases hc
    simp only [bE] at h
    obtain ⟨w',H',O',h1,h2,h3,h4⟩:=Fp (P:=P) hf.st ht h (hf.eval hj) (hf.eval hk)
    refine nA (by simp only [execOp,c9];exact sc h1) ⟨M,L,H',env,O',h2,?_,h4,aaD L⟩
    rw [hnone];exact ⟨h3,hf.size,hf.defers.ext h4⟩
 | nilCheck x=>
   simp only [cE,c9] at hc
   obtain ⟨j,hj,rfl⟩:=aal.1 hc
   simp only [bE] at h
   exact bS hf hd (yO c9 h (hf.eval hj))
 | binOp op t x y yt=>
   simp only [cE,c9] at hc
   split at hc <;> try cases hc
   rename_i j k hj hk
   have hx:=hf.eval hj
   have hy:=hf.eval hk
   have plain:∀ {op},dw op (aE env j) (aE env k) (fun z=>K (put o.dst z env) H)→o.op=.binOp op t x y yt→o.wpIn (wf ro) 0 P a w (oF A n M L w K) Q:=by
    intro op h c9
    obtain ⟨r,z,h1,h2,h3,h4⟩:=KN (P:=P) (w:=w) (t:=t) h hx hy x y
    exact bS hf hd ⟨r,z,by simp only [execOp,c9];exact bb h1,h2,h3,h4⟩
   split at hc
   ·cases hc
    simp only [bE] at h
    obtain ⟨r,z,h1,h2,h3,h4⟩:=wL (P:=P) (w:=w) (t:=t) h hx hy x y
    exact bS hf hd ⟨r,z,by simp only [execOp,c9];exact bb h1,h2,h3,h4⟩
   ·cases hc
    simp only [bE] at h
    obtain ⟨r,z,h1,h2,h3,h4⟩:=wL (P:=P) (w:=w) (t:=t) h hx hy x y
    exact bS hf hd ⟨r,z,by simp only [execOp,c9];exact bb h1,h2,h3,h4⟩
   ·split at hc <;> try cases hc
    ·rename_i ht
     simp only [bE] at h
     obtain ⟨r,z,h1,h2,h3,h4⟩:=uJ (P:=P) (w:=w) (neq:=false) ht h hx hy x y
     exact bS hf hd ⟨r,z,by simp only [execOp,c9];exact bb h1,h2,h3,h4⟩
    ·exact plain (op:=.eql) h c9
    ·exact plain (op:=.eql) h c9
    all_goals
     rename_i ht
     split at hc <;> cases hc
     simp only [bE] at h
     obtain ⟨r,z,h1,h2,h3,h4⟩:=w7 (P:=P) (w:=w) (neq:=false) ht rfl h hx x (.const .nilFunc)
     exact bS hf hd ⟨r,z,by simp only [execOp,c9];exact bb h1,h2,h3,h4⟩
   ·split at hc <;> try cases hc
    ·rename_i ht
     simp only [bE] at h
     obtain ⟨r,z,h1,h2,h3,h4⟩:=uJ (P:=P) (w:=w) (neq:=true) ht h hx hy x y
     exact bS hf hd ⟨r,z,by simp only [execOp,c9];exact bb h1,h2,h3,h4⟩
    ·exact plain (op:=.neq) h c9
    ·exact plain (op:=.neq) h c9
    all_goals
     rename_i ht
     split at hc <;> cases hc
     simp only [bE] at h
     obtain ⟨r,z,h1,h2,h3,h4⟩:=w7 (P:=P) (w:=w) (neq:=true) ht rfl h hx x (.const .nilFunc)
     exact bS hf hd ⟨r,z,by simp only [execOp,c9];exact bb h1,h2,h3,h4⟩
   ·cases hc;exact plain h c9
 | unOp op t x=>
   simp only [cE,c9] at hc
   obtain ⟨j,hj,rfl⟩:=aal.1 hc
   simp only [bE] at h
   obtain ⟨r,z,h1,h2,h3,h4⟩:=Ot (P:=P) (w:=w) h (hf.eval hj)
   exact bS hf hd ⟨r,z,by simp only [execOp,c9];exact bb h1,h2,h3,h4⟩
 | convert src dst x=>
   simp only [cE,c9] at hc
   split at hc <;> try cases hc
   ·rename_i k1 k2 j hs SM hj
    simp only [bE] at h
    obtain ⟨r,z,h1,h2,h3,h4⟩:=A5 (P:=P) (w:=w) hs SM h (hf.eval hj)
    exact bS hf hd ⟨r,z,by simp only [execOp,c9];exact bb h1,h2,h3,h4⟩
   ·rename_i j hs SM hj
    simp only [bE] at h
    obtain ⟨r,z,h1,h2,h3,h4⟩:=Bb (P:=P) (w:=w) hs SM h (hf.eval hj)
    exact bS hf hd ⟨r,z,by simp only [execOp,c9];exact bb h1,h2,h3,h4⟩
   ·rename_i e j hs SM hj
    split at hc <;> cases hc
    rename_i he
    simp only [bE] at h
    obtain ⟨r,z,w',M',ob,h1,h2,h3,h4,h5,h6,h7,h8⟩:=Bc (P:=P) hf.st hs SM he h (hf.eval hj)
    exact wY hf hd (by simp only [execOp,c9];exact bb h1) h2 h4 h5 h6 h7 h8 h3
   ·rename_i e j hs SM hj
    split at hc <;> cases hc
    rename_i he
    simp only [bE] at h
    obtain ⟨r,z,h1,h2,h3,h4⟩:=Fx (P:=P) hf.st hs he SM h (hf.eval hj)
    exact bS hf hd ⟨r,z,by simp only [execOp,c9];exact bb h1,h2,h3,h4⟩
 | makeFunc f first cap=>
   simp only [cE,c9] at hc
   split at hc <;> cases hc
   rename_i i j hi hj
   simp only [bE] at h
   refine bS hf hd ⟨.func f (first.map a.eval) (cap.map a.eval),_,?_,?_,h,by intro _ _ e;cases e⟩
   ·simp only [execOp,c9];rfl
   ·have:=a7.fn (M:=M) (L:=L) f (first.toList.map a.eval) (cap.toList.map a.eval) _ _ (w8 hf hi) (w8 hf hj)
    rw [show (first.toList.map a.eval).toArray=first.map a.eval by apply Array.ext';simp,show (cap.toList.map a.eval).toArray=cap.map a.eval by apply Array.ext';simp] at this
    exact this
 | makeMap t r=>
   cases r with
   | some r=>simp [cE,c9] at hc
   | none=>
     simp only [cE,c9] at hc
     cases hc
     simp only [bE] at h
     obtain ⟨r,L',w',h1,h2,h3,h4,h5⟩:=FA (P:=P) hf.st t
     exact pN hf hd (by simp only [execOp,c9];exact bb h1) h2 (by intro _ _ e;cases e) h3 h4 h5 h
 | makeSlice t l c=>
   simp only [cE,c9] at hc
   split at hc <;> try cases hc
   rename_i e k ht hk
   split at hc <;> try cases hc
   rename_i esz z bytes hz hb
   split at hc <;> try cases hc
   rename_i hcond
   obtain ⟨rQ,Bk⟩:=hcond
   obtain ⟨p1,p2,p3,p4,p5⟩:=Hu hz
   obtain ⟨inf,iT,dd⟩:=aal.1 p1
   obtain ⟨inf',o7,rP⟩:=aal.1 hb
   rw [iT] at o7;cases o7
   unfold fZ at p2
   simp only [iT] at p2
   split at p2 <;> try cases p2
   rename_i zv qx
   split at hc
   ·cases hc
    simp only [bE] at h
    have vV:zv.cells.size=esz:=by have:=((cQ (M:=M) (L:=L) p2).gU p5).length;rw [p4] at this;simpa using this
    obtain ⟨r,w',M',b,h1,h2,h3,h4,h5,h6,h7,h8,h9,h10⟩:=Fv (P:=P) hf.st ht iT qx dd rP p3 rQ vV h (hf.eval hk)
    exact wY hf hd (by simp only [execOp,c9];exact bb h1) h2 h4 h5 h6 (fun q b' ew=>by cases ew;exact h7 q) (fun b' ew=>by cases ew;exact ⟨h8,h9,h10⟩) h3
   ·split at hc <;> cases hc
    rename_i hsame
    simp only [bE] at h
    have zK:a.eval l=a.eval c:=by
     unfold K6 at hsame
     split at hsame
     ·simp at hsame;subst hsame;rfl
     ·simp at hsame;subst hsame;rfl
     ·cases hsame
    have CY:∀ y∈z.cells,∀ own xs,y=.al own xs→own=0:=by
     intro y hy own xs e
     have:=abc.1 Bk y hy
     subst e
     simpa using this
    obtain ⟨r,x,L',w',H',h1,h2,h3,h4,h5,h6,h7⟩:=Fu (P:=P) hf.st ht iT qx dd rP p3 rQ p2 p5 p4 CY h (hf.eval hk)
    exact pN hf hd (by simp only [execOp,c9,zK];exact bb h1) h2 h3 h5 h6 h7 h4
 | slice t x lo hi mx=>
   simp only [cE,c9] at hc
   split at hc <;> try cases hc
   ·rename_i e i l h' m ht lW hl hh hm
    split at hc <;> try cases hc
    rename_i esz he
    split at hc <;> cases hc
    rename_i h0
    by_cases OB:fl=4
    ·rw [if_pos OB] at h
     simp only [bE] at h
     obtain ⟨ad,k,c,own,ys,h1,h2,⟨h3,VX⟩,h4⟩:=wQ (P:=P) hf.st ht he h0 h.2 (hf.eval lW) h.1 (cB hf hl) (cB hf hh) (cB hf hm)
     cases h3
     obtain ⟨rfl,_⟩:=h4 (by omega)
     have hk:k=0:=by
      cases h2 with
      | iN=>rfl
      | al b off c own e cs xs he hx hn=>simp at hn
     subst hk
     exact bS hf hd ⟨_,_,by simp only [execOp,c9];exact bb h1,.oP ad,VX,by intro _ _ e;cases e⟩
    rw [if_neg OB] at h
    simp only [bE] at h
    unfold bH at h
    split at h
    ·rename_i e0 a0 b0 c0 d0 KW
     rw [← KW] at h
     split at h
     ·rename_i CX
      have VU:mx=none:=by
       cases mx with
       | none=>rfl
       | some q=>simp only [lH] at hm;obtain ⟨_,_,rfl⟩:=aal.1 hm;cases CX
      subst VU
      obtain ⟨r,z,h1,h2,h3,h4⟩:=C3 (P:=P) ht he h (hf.eval lW) (cB hf hl) (cB hf hh)
      exact bS hf hd ⟨r,z,by simp only [execOp,c9];exact bb h1,h2,h3,h4⟩
     ·rename_i m0 CX
      have hm3:=cB (a:=a) hf hm
      rw [CX] at hm3
      obtain ⟨r,z,h1,h2,h3,h4⟩:=C4 (P:=P) ht he h (hf.eval lW) (cB hf hl) (cB hf hh) hm3
      exact bS hf hd ⟨r,z,by simp only [execOp,c9];exact bb h1,h2,h3,h4⟩
    obtain ⟨ad,k,c,own,ys,h1,h2,h3,h4⟩:=wQ (P:=P) hf.st ht he h0 h.2 (hf.eval lW) h.1 (cB hf hl) (cB hf hh) (cB hf hm)
    by_cases vD:own=0
    ·subst vD
     exact bS hf hd ⟨_,_,by simp only [execOp,c9];exact bb h1,h2,h3,by intro _ _ e;cases e;rfl⟩
    ·obtain ⟨rfl,h5⟩:=h4 vD
     obtain ⟨O',qo⟩:=hf.Ho (dst:=o.dst) hd h2 (fun _=>h5)
     exact di (by simp only [execOp,c9];exact bb h1) ⟨M,L,H,_,O',h3,qo,Ext.refl A M w,aaD L⟩
   ·rename_i i l h' ht lW hl hh hm
    simp only [bE] at h
    have VU:mx=none:=by
     cases mx with
     | none=>rfl
     | some q=>simp only [lH] at hm;obtain ⟨_,_,hz⟩:=aal.1 hm;cases hz
    subst VU
    obtain ⟨r,z,h1,h2,h3,h4⟩:=yR (P:=P) (w:=w) ht h (hf.eval lW) (cB hf hl) (cB hf hh)
    exact bS hf hd ⟨r,z,by simp only [execOp,c9];exact bb h1,h2,h3,h4⟩
 | fieldAddr s x f=>
   simp only [cE,c9] at hc
   split at hc <;> cases hc
   rename_i off sz j ht hj
   simp only [bE] at h
   obtain ⟨r,z,h1,h2,h3,h4⟩:=wM (P:=P) (w:=w) ht h (hf.eval hj)
   exact bS hf hd ⟨r,z,by simp only [execOp,c9];exact bb h1,h2,h3,h4⟩
 | field s x f=>
   simp only [cE,c9] at hc
   split at hc <;> cases hc
   rename_i off sz j ht hj
   simp only [bE] at h
   obtain ⟨r,z,h1,h2,h3,h4⟩:=Fh (P:=P) (w:=w) ht h (hf.eval hj)
   exact bS hf hd ⟨r,z,by simp only [execOp,c9];exact bb h1,h2,h3,h4⟩
 | indexAddr t x i=>
   simp only [cE,c9] at hc
   split at hc <;> try cases hc
   rename_i e j k ht hj hk
   obtain ⟨esz,he,rfl⟩:=aal.1 hc
   simp only [bE] at h
   obtain ⟨r,z,h1,h2,h3,h4⟩:=wN (P:=P) (w:=w) ht he h.2 h.1 (hf.eval hj) (hf.eval hk)
   exact bS hf hd ⟨r,z,by simp only [execOp,c9];exact bb h1,h2,h3,h4⟩
 | index t x i=>
   simp only [cE,c9] at hc
   split at hc <;> try cases hc
   ·rename_i j k ht hj hk
    simp only [bE] at h
    obtain ⟨r,z,h1,h2,h3,h4⟩:=yN (P:=P) (w:=w) ht h (hf.eval hj) (hf.eval hk)
    exact bS hf hd ⟨r,z,by simp only [execOp,c9];exact bb h1,h2,h3,h4⟩
   ·rename_i m e j k ht hj hk
    split at hc <;> cases hc
    rename_i he
    simp only [bE] at h
    obtain ⟨r,z,h1,h2,h3,h4⟩:=yM (P:=P) (w:=w) ht he h (hf.eval hj) (hf.eval hk)
    exact bS hf hd ⟨r,z,by simp only [execOp,c9];exact bb h1,h2,h3,h4⟩
 | lookup t m k ok=>
   simp only [cE,c9] at hc
   split at hc <;> try cases hc
   rename_i kt et i j ht hi hj
   split at hc <;> cases hc
   rename_i kd z hk hz
   simp only [bE] at h
   obtain ⟨r,z,h1,h2,h3,h4⟩:=C1 (P:=P) hf.st ht hk hz h (hf.eval hi) (hf.eval hj)
   exact bS hf hd ⟨r,z,by simp only [execOp,c9];exact bb h1,h2,h3,h4⟩
 | mapUpdate t m k x=>
   simp only [c9] at hnone
   simp only [cE,c9] at hc
   split at hc <;> try cases hc
   rename_i kt et i j y ht hi hj hy
   obtain ⟨kd,hk,rfl⟩:=aal.1 hc
   simp only [bE] at h
   obtain ⟨w',H',h1,h2,h3,h4⟩:=C2 (P:=P) hf.st ht hk h (hf.eval hi) (hf.eval hj) (hf.eval hy)
   refine nA (by simp only [execOp,c9];exact sc h1) ⟨M,L,H',env,O,h2,?_,h4,aaD L⟩
   rw [hnone];exact ⟨h3,hf.size,hf.defers.ext h4⟩
 | extract x i=>
   simp only [cE,c9] at hc
   obtain ⟨j,hj,rfl⟩:=aal.1 hc
   simp only [bE] at h
   obtain ⟨r,z,h1,h2,h3,h4⟩:=A4 (P:=P) (w:=w) h (hf.eval hj)
   exact bS hf hd ⟨r,z,by simp only [execOp,c9];exact bb h1,h2,h3,h4⟩
 | call c=>
   simp only [cE,c9] at hc
   split at hc
   ·rename_i f oG
    split at hc <;> cases hc
    rename_i i js hi hj
    exact FC c9 oG hi hj hp hf hd h
   ·rename_i oG
    split at hc <;> try cases hc
    rename_i x t hargs Bm
    have hcall:c={ callee:=.builtin .len,args:=#[x],argTypes:=#[t] }:=by
     obtain ⟨c1,c2,c3⟩:=c
     simp only at oG hargs Bm
     subst oG
     rw [show c2=#[x] from Array.ext' hargs,show c3=#[t] from Array.ext' Bm]
    subst hcall
    have fin:∀ {d:TypeDesc} {kd:Nat} {j:IX},P.underlying t=some d→aY x=some j→kc d (aE env j)=true→(fR (aE env j) H fun z=>K (put o.dst z env) H)→o.wpIn (wf ro) 0 P a w (oF A n M L w K) Q:=by
     intro d kd j ht hj hk h
     obtain ⟨r,z,h1,h2,h3,h4⟩:=KR (P:=P) ht hf.st hk h (hf.eval hj) o.type
     refine bS hf hd ⟨r,z,?_,h2,h3,h4⟩
     simp only [execOp,c9,resolve,invoke,builtin,Sem.run_bind,Sem.run_pure,Result.andThen_ok,adl,List.map_cons,List.map_nil,h1]
    split at hc <;> cases hc
    ·rename_i j ht hj;exact fin (kd:=0) ht hj (I7 h.1) h.2
    ·rename_i e j ht hj;exact fin (kd:=0) ht hj (C9 h.1 e) h.2
    ·rename_i k e j ht hj;exact fin (kd:=0) ht hj (I8 h.1 k e) h.2
   ·rename_i oG
    split at hc <;> try cases hc
    rename_i s x t t' hargs Bm
    split at hc <;> try cases hc
    rename_i htt
    subst htt
    split at hc <;> try cases hc
    rename_i e i j ht hi hj
    split at hc <;> try cases hc
    rename_i esz z bytes hz hb
    split at hc <;> try cases hc
    rename_i rQ
    have hcall:c={ callee:=.builtin .append,args:=#[s,x],argTypes:=#[t,t] }:=by
     obtain ⟨c1,c2,c3⟩:=c
     simp only at oG hargs Bm
     subst oG
     rw [show c2=#[s,x] from Array.ext' hargs,show c3=#[t,t] from Array.ext' Bm]
    subst hcall
    split at hc
    ·split at hc <;> cases hc
     rename_i Bk
     exact yW c9 ht hz hb rQ Bk hi hj hf hd h
    split at hc
    ·split at hc <;> cases hc
     rename_i Bk
     exact yX c9 ht hz hb rQ Bk hi hj hf hd hp h
    cases hc
    exact Bj c9 ht hz hb rQ hi hj hf hd h
   ·rename_i oG
    split at hc <;> try cases hc
    rename_i x y hargs
    split at hc <;> cases hc
    rename_i i j hi hj
    simp only [bE] at h
    obtain ⟨r,z,h1,h2,h3,h4⟩:=Hp (P:=P) (w:=w) (big:=true) h (hf.eval hi) (hf.eval hj) c.argTypes o.type
    refine bS hf hd ⟨r,z,?_,h2,h3,h4⟩
    have hargs':c.args=#[x,y]:=Array.ext' hargs
    simp only [if_true] at h1
    simp only [execOp,c9,resolve,oG,invoke,builtin,Sem.run_bind,Sem.run_pure,Result.andThen_ok,hargs',adl,List.map_cons,List.map_nil,h1]
   ·rename_i oG
    split at hc <;> try cases hc
    rename_i x y hargs
    split at hc <;> cases hc
    rename_i i j hi hj
    simp only [bE] at h
    obtain ⟨r,z,h1,h2,h3,h4⟩:=Hp (P:=P) (w:=w) (big:=false) h (hf.eval hi) (hf.eval hj) c.argTypes o.type
    refine bS hf hd ⟨r,z,?_,h2,h3,h4⟩
    have hargs':c.args=#[x,y]:=Array.ext' hargs
    simp only [abI,if_false] at h1
    simp only [execOp,c9,resolve,oG,invoke,builtin,Sem.run_bind,Sem.run_pure,Result.andThen_ok,hargs',adl,List.map_cons,List.map_nil,h1]
   ·cases hc
 | _=>simp [cE,c9] at hc
theorem FD (o:Oper) (hf:Fr A n M L w H env O a) (hd:∀ d,o.dst=some d→d < n) (h:bE ⟨P,lo⟩ (rZ P o) o.dst env H K):o.wpIn (wf ro) 0 P a w (oF A n M L w K) Q:=by
 cases c9:o.op with
 | call c=>
   simp only [rZ,c9] at h
   split at h <;> try exact h.elim
   rotate_left
   ·rename_i oG
    split at h <;> try exact h.elim
    rename_i s t hargs Bm
    split at h <;> try exact h.elim
    rename_i e i ht hi
    split at h <;> try exact h.elim
    rename_i esz z hz
    simp only [bE] at h
    unfold cA at hz
    split at hz <;> try cases hz
    rename_i esz' z' NY nG
    split at hz <;> cases hz
    rename_i hcond
    obtain ⟨h0,gW,qx⟩:=hcond
    obtain ⟨inf,iT,dd⟩:=aal.1 NY
    unfold fZ at nG
    simp only [iT] at nG
    split at nG <;> try cases nG
    rename_i zv tH
    obtain ⟨w',H',O',h1,h2,h3,h4⟩:=C7 (P:=P) hf.st ht iT tH h0 nG qx gW h (hf.eval hi) o.type
    obtain ⟨O'',qo⟩:=(hf.mono h3 h4).oQ (dst:=o.dst) hd (.tuple [] [] .nil) (by intro _ _ e;cases e)
    have hargs':c.args=#[s]:=Array.ext' hargs
    have K8:c.argTypes=#[t]:=Array.ext' Bm
    refine di (v:=.tuple #[]) ?_ ⟨M,L,H',_,O'',h2,qo,h4,aaD L⟩
    simp only [execOp,c9,resolve,oG,invoke,builtin,Sem.run_bind,Sem.run_pure,Result.andThen_ok,hargs',K8,adl,List.map_cons,List.map_nil,h1]
   rename_i oG
   split at h <;> try exact h.elim
   rename_i s x t t' hargs Bm
   split at h <;> try exact h.elim
   rename_i e i j ht hi hj
   split at h <;> try exact h.elim
   rename_i esz he
   simp only [bE] at h
   obtain ⟨r,z,w',H',O',h1,h2,h3,h4,h5,h6⟩:=I0 (P:=P) hf.st ht he h (hf.eval hi) (hf.eval hj) t' o.type
   obtain ⟨O'',qo⟩:=(hf.mono h4 h5).oQ (dst:=o.dst) hd h2 h6
   have hargs':c.args=#[s,x]:=Array.ext' hargs
   have K8:c.argTypes=#[t,t']:=Array.ext' Bm
   refine di (v:=r) ?_ ⟨M,L,H',_,O'',h3,qo,h5,aaD L⟩
   simp only [execOp,c9,resolve,oG,invoke,builtin,Sem.run_bind,Sem.run_pure,Result.andThen_ok,hargs',K8,adl,List.map_cons,List.map_nil,h1]
 | _=>simp only [rZ,c9] at h;exact h.elim
theorem FE (o:Oper) (hf:Fr A n M L w H env O a) (hd:∀ d,o.dst=some d→d < n) (h:bE ⟨P,lo⟩ (o6 P o) o.dst env H K):o.wpIn (wf ro) 0 P a w (oF A n M L w K) Q:=by
 have key:∀ {x:Operand},(o.op=.move x∨o.op=.assign x)→∀ {i:IX} {esz:Nat},aY x=some i→(jl esz (aE env i) H fun z H'=>K (put o.dst z env) H')→o.wpIn (wf ro) 0 P a w (oF A n M L w K) Q:=by
  intro x ho i esz hi h
  obtain ⟨z,M',H',O',h1,h2,h3,h4,h5⟩:=tK hf.st h (hf.eval hi)
  have bK:(execOp a.eval o).run P w=.ok (.value (a.eval x)) w:=by
   rcases ho with ho | ho <;> simp [execOp,ho]
  obtain ⟨O'',qo⟩:=(hf.mono h3 h4).oQ (dst:=o.dst) hd h1 h5
  exact di bK ⟨M',L,H',_,O'',h2,qo,h4,aaD L⟩
 cases c9:o.op with
 | move x=>
   simp only [o6,c9] at h
   split at h <;> try exact h.elim
   rename_i hi ht
   split at h <;> try exact h.elim
   exact key (.inl c9) hi h
 | assign x=>
   simp only [o6,c9] at h
   split at h <;> try exact h.elim
   rename_i hi ht
   split at h <;> try exact h.elim
   exact key (.inr c9) hi h
 | _=>simp only [o6,c9] at h;exact h.elim
theorem Da (o:Oper) (esz:Nat) (hf:Fr A n M L w H env O a) (hd:∀ d,o.dst=some d→d < n) (h:bE ⟨P,lo⟩ (mD esz o) o.dst env H K):o.wpIn (wf ro) 0 P a w (oF A n M L w K) Q:=by
 have key:∀ {x:Operand},(o.op=.move x∨o.op=.assign x)→∀ {i:IX},aY x=some i→(jl esz (aE env i) H fun z H'=>K (put o.dst z env) H')→o.wpIn (wf ro) 0 P a w (oF A n M L w K) Q:=by
  intro x ho i hi h
  obtain ⟨z,M',H',O',h1,h2,h3,h4,h5⟩:=tK hf.st h (hf.eval hi)
  have bK:(execOp a.eval o).run P w=.ok (.value (a.eval x)) w:=by
   rcases ho with ho | ho <;> simp [execOp,ho]
  obtain ⟨O'',qo⟩:=(hf.mono h3 h4).oQ (dst:=o.dst) hd h1 h5
  exact di bK ⟨M',L,H',_,O'',h2,qo,h4,aaD L⟩
 cases c9:o.op with
 | move x=>
   simp only [mD,c9] at h
   split at h <;> try exact h.elim
   rename_i hi
   exact key (.inl c9) hi h
 | assign x=>
   simp only [mD,c9] at h
   split at h <;> try exact h.elim
   rename_i hi
   exact key (.inr c9) hi h
 | _=>simp only [mD,c9] at h;exact h.elim
theorem uR (o:Oper) {fl:Nat} (hp:∀ l,lo=some l→∀ id,l≤id→A.top id=none) (hf:Fr A n M L w H env O a) (hd:∀ d,o.dst=some d→d < n) (hnone:(match o.op with | .store .. | .mapUpdate ..=>o.dst=none | _=>True))
 (h:bE ⟨P,lo⟩ (C8 P o fl) o.dst env H K):o.wpIn (wf ro) 0 P a w (oF A n M L w K) Q:=by
 unfold C8 at h
 split at h
 ·exact FE o hf hd h
 split at h
 ·exact Da o _ hf hd h
 cases hc:cE P o fl with
 | none=>rw [hc] at h;exact FD o hf hd h
 | some i=>rw [hc] at h;exact K7 o hc hp hf hd hnone h
end
end Go.aI
end
section
namespace Go.aI
open Go
section
variable {M:Mem} {L:List Nat}
theorem sj {n:Nat}:∀ {xs:List AV},(∀ x∈xs,x.cells.length≠0)→aw n (flat xs)=true→aw n xs=true
 | [],_,_=>rfl
 | x::xs,hx,h=>by
   rw [bg] at h ⊢
   intro y hy
   rcases aak.1 hy with rfl | hy
   ·cases y with
    | agg ys=>
      simp only [AV.bc]
      rw [bg]
      intro z hz
      exact h z (by simp [flat,AV.cells,hz])
    | _=>exact h _ (by simp [flat,AV.cells])
   ·have:=sj (xs:=xs) (n:=n) (fun x rN=>hx x (aaA _ rN)) (by
     rw [bg]
     intro z hz
     exact h z (by simp only [flat,List.flatMap_cons,abF] at hz ⊢;exact .inr hz))
    rw [bg] at this
    exact this y hy
theorem I9 {n:Nat} {x:AV} (h:aw n x.cells=true):x.bc n=true:=by
 cases x <;> simp_all [AV.cells,AV.bc,aw]
theorem a7.OG {v:Value} {x:AV} (h:a7 M L v x):x.bc L.length=true:=by
 induction h using a7.rec (motive_2:=fun vs xs _=>aw L.length xs=true) with
 | al b off c own e cs xs he hx hn hle hc hr hm ih=>exact sj (fun x rN=>by rw [hx x rN];omega) ih
 | aZ b off len cap id hl hc=>simp only [AV.bc,decide_eq_true_eq];exact aS hl
 | agg cs xs hr ih=>exact ih
 | tuple cs xs hr ih=>exact ih
 | ptr b off id hl=>simp only [AV.bc,decide_eq_true_eq];exact aS hl
 | ah b off cs x hr hm ih=>simp only [AV.bc];exact I9 ih
 | map b id hl=>simp only [AV.bc,decide_eq_true_eq];exact aS hl
 | qm b id hl=>simp only [AV.bc,decide_eq_true_eq];exact aS hl
 | fn f fs cs xs ys h1 h2 i1 i2=>simp only [AV.bc,zC];exact ⟨i1,i2⟩
 | iface t v x h ih=>exact ih
 | cons v x vs xs h t i1 i2=>simp only [aw,zC];exact ⟨i1,i2⟩
 | nil=>rfl
 | _=>rfl
theorem aP.OG:∀ {vs:List Value} {xs:List AV},aP M L vs xs→aw L.length xs=true
 | _,_,.nil=>rfl
 | _,_,.cons _ _ _ _ h t=>by simp only [aw,zC];exact ⟨h.OG,t.OG⟩
end
section
variable {A:Perm} {M:Mem} {L:List Nat} {w:World} {H:List aa} {ev:Nat→Value} {ea:Nat→AV} {O:Pos→Option Nat}
theorem St.pP (h:St A M L w H ev ea O) {id b:Nat} {st st':VQ} {lc:jL} {es:List AV} {r':Loop} (bF:H[id]?=some (.loop st lc es)) (hL:L[id]?=some b)
 (hr:∀ r,w.heap[b]?=some (.loop r)→r'.params=r.params∧r'.assign=r.assign∧r'.body=r.body∧r'.tmps=r.tmps∧r'.defers=r.defers∧st'.ok r') :
 St A M L (w.putObj b (.loop r')) (H.set id (.loop st' lc es)) ev ea O∧Ext A M w M (w.putObj b (.loop r')):=by
 have zD:b∈L:=abB hL
 have Sz:=h.lt b zD
 obtain ⟨r0,hc,p1,p2,p3,p4,p5⟩:=h.obj id _ b bF hL
 obtain ⟨q1,q2,q3,q4,q5,q6⟩:=hr r0 hc
 have gT:∀ k,k≠b→(w.putObj b (.loop r')).heap[k]?=w.heap[k]?:=fun k hk=>World.putObj_heap_other hk
 have oE:(w.putObj b (.loop r')).heap[b]?=some (.loop r'):=World.putObj_heap_same Sz
 have VR:∀ o,M b o=none:=by
  intro o
  cases hm:M b o with
  | none=>rfl
  | some v=>
    have:=h.mem b o v hm
    simp [World.cell?,hc] at this
 have rS:id < H.length:=aS bF
 refine ⟨{ len:=by simp [h.len],nodup:=h.nodup,env:=h.env,mem:=?_,obj:=?_,bJ:=?_,lt:=?_,jX:=?_,jD:=?_,cU:=h.cU,cZ:=h.cZ,iA:=?_,La:=h.La,Oa:=h.Oa,fresh:=?_ },?_⟩
 ·intro k o v hv
  have hk:k≠b:=by rintro rfl;rw [VR o] at hv;cases hv
  have:=h.mem k o v hv
  simp only [World.cell?] at this ⊢
  rw [gT k hk];exact this
 ·intro id' o k ho hk
  by_cases e0:id'=id
  ·subst e0
   rw [hL] at hk;cases hk
   rw [Sx rS] at ho
   cases ho
   exact ⟨r',oE,q1.trans p1,q2.trans p2,q3.trans p3,by rw [q4];exact p4,q6⟩
  ·rw [zA (fun h'=>e0 h'.symm)] at ho
   have E3:k≠b:=by
    rintro rfl
    exact e0 ((adB (aS hk) h.nodup).1 (hk.trans hL.symm))
   exact (h.obj id' o k ho hk).mono (Mem.b8 M) (aaD _) (gT k E3) (fun _=>rfl)
 ·intro id' o ho
  rw [ab7]
  by_cases e0:id'=id
  ·subst e0
   rw [Sx rS] at ho
   cases ho
   exact h.bJ id' (.loop st lc es) bF
  ·rw [zA (fun h'=>e0 h'.symm)] at ho
   exact h.bJ id' o ho
 ·intro k hk;simpa using h.lt k hk
 ·intro t
  exact (h.jX t).mono fun k hk=>⟨gT k (fun e3=>h.cZ _ k hk (e3 ▸ zD)),fun _=>rfl⟩
 ·intro id' j
  by_cases e0:id'=id
  ·subst e0
   have hn:O (.c id' j)=none:=by
    have:=h.jD id' j
    simp only [bB,bF] at this
    exact this
   have e2:bB (H.set id' (.loop st' lc es)) id' j=.any:=by
    unfold bB
    rw [Sx rS]
   rw [e2,hn];rfl
  ·have e1:bW L (w.putObj b (.loop r')) id' j=bW L w id' j:=by
    unfold bW
    split
    ·rename_i k hk
     have E3:k≠b:=by
      rintro rfl
      exact e0 ((adB (aS hk) h.nodup).1 (hk.trans hL.symm))
     simp only [World.cell?]
     rw [gT k E3]
    ·rfl
   have e2:bB (H.set id (.loop st' lc es)) id' j=bB H id' j:=by
    unfold bB
    rw [zA (fun h'=>e0 h'.symm)]
   rw [e1,e2]
   exact (h.jD id' j).mono fun k hk=>⟨gT k (fun e3=>h.cZ _ k hk (e3 ▸ zD)),fun _=>rfl⟩
 ·intro p k hp;simpa using h.iA p k hp
 ·intro k hk;simp at hk;exact h.fresh k hk
 ·exact ⟨Mem.b8 M,by simp,rfl,rfl,rfl,fun k hk hA=>⟨gT k (fun e0=>hA (e0 ▸ h.La b zD)),fun _=>rfl⟩,fun k r hk=>by
   by_cases e0:k=b
   ·subst e0
    rw [hc] at hk;cases hk
    exact ⟨r',oE,q5⟩
   ·exact ⟨r,(gT k e0).trans hk,rfl⟩⟩
def Perm.WD (A:Perm) (D:Nat):Perm:=⟨fun b=>A b∧b≠D,A.top,A.ok,A.base⟩
def Perm.Le (A' A:Perm):Prop:=A'.top=A.top∧(∀ b,A' b→A b)∧A'.base=A.base
theorem Perm.Le.refl (A:Perm):A.Le A:=⟨rfl,fun _ h=>h,rfl⟩
theorem Perm.Le.trans {A B C:Perm} (h:A.Le B) (k:B.Le C):A.Le C:=⟨h.1.trans k.1,fun b hb=>k.2.1 b (h.2.1 b hb),h.2.2.trans k.2.2⟩
theorem Perm.Bn (A:Perm) (D:Nat):(A.WD D).Le A:=⟨rfl,fun _ h=>h.1,rfl⟩
theorem Perm.Le.jk {A' A:Perm} (h:A'.Le A) (len id:Nat):A'.jk len id=A.jk len id:=by unfold Perm.jk;rw [h.1]
theorem Ext.le {A':Perm} {M':Mem} {w':World} (h:Ext A' M w M' w') (hl:A'.Le A):Ext A M w M' w':=
 ⟨h.oD,h.size,h.os,h.tape,h.output,fun b hb hA=>h.mv b hb fun h'=>hA (hl.2.1 b h'),h.loops⟩
theorem St.le {A':Perm} (h:St A' M L w H ev ea O) (hl:A'.Le A):St A M L w H ev ea O:=
 { h with bJ:=fun id o ho=>by rw [← hl.jk];exact h.bJ id o ho,La:=fun b hb=>hl.2.1 b (h.La b hb),Oa:=fun p b hp=>hl.2.1 b (h.Oa p b hp),fresh:=fun b hb=>hl.2.1 b (h.fresh b hb) }
theorem St.WD (h:St A M L w H ev ea O) {D:Nat} (h1:D∉L) (h2:∀ p,O p≠some D) (h3:D < w.heap.size):St (A.WD D) M L w H ev ea O:=
 { h with
   bJ:=fun id o ho=>by rw [(A.Bn D).jk];exact h.bJ id o ho
   La:=fun b hb=>⟨h.La b hb,fun e=>h1 (e ▸ hb)⟩
   Oa:=fun p b hp=>⟨h.Oa p b hp,fun e=>h2 p (e ▸ hp)⟩
   fresh:=fun b hb=>⟨h.fresh b hb,fun e=>by omega⟩ }
theorem Rb.le {A':Perm} {ds:List Deferred} (h:Rb A w ds) (hl:A'.Le A):Rb A' w ds:=⟨by rw [hl.2.2];exact h.1,h.2.1,fun d hd=>by
 obtain ⟨D,h1,h2,h3,h4⟩:=h.2.2 d hd
 exact ⟨D,h1,h2,fun h'=>h3 (hl.2.1 D h'),by rw [hl.2.2];exact h4⟩⟩
end
end Go.aI
end
section
namespace Go.aI
open Go
structure bO where
 g:Option (Nat×Bool)
 dst:Option Nat
 op:cu
 deriving Inhabited
inductive DT where
 | done
 | take (st:Bool) (o:bO) (r:DT)
 | br (o:bO) (t rest:DT)
 | nil
 deriving Inhabited
def inst (il:List bO):yL→DT
 | .done=>.done
 | .take i st r=>.take st (il.getD i default) (inst il r)
 | .br i t rest=>.br (il.getD i default) (inst il t) (inst il rest)
 | .nil=>.nil
inductive IR where
 | skip
 | region (ops:List bO) (live:Option (List Nat))
 | draw (t:DT) (live:Option (List Nat))
 | seq (a b:IR)
 | cond (x:IX) (a b:IR)
 | block (id:Nat) (a:IR)
 | loop (a:IR)
 | exit (id:Nat)
 | ret
 | never
 | ma (f:IX) (lc:jL)
 deriving Inhabited
def ku (live:Option (List Nat)) (env:Env):Env:=
 match live with
 | none=>env
 | some l=>l.map fun t=>(t,get env t)
def kR (env:Env) (g:Nat) (want:Bool) (yes no:Env→Prop):Prop:=
 match get env g with
 | .bool b=>(b=want→yes ((g,.bool want)::env))∧(b=(!want)→no ((g,.bool (!want))::env))
 | .tuple []=>no env
 | _=>False
def vI (P:Px) (o:bO) (env:Env) (H:List aa) (K:Env→List aa→Prop):Prop:=
 match o.g with
 | none=>bE P o.op o.dst env H K
 | some (g,want)=>kR env g want (fun env=>bE P o.op o.dst env H K) (fun env=>K (put o.dst (.tuple []) env) H)
def mF (P:Px):List bO→Env→List aa→(Env→List aa→Prop)→Prop
 | [],env,H,K=>K env H
 | o::r,env,H,K=>vI P o env H fun env H=>mF P r env H K
def dT (P:Px) (o:cu) (ρ:IX→AV) (H:List aa) (x:AV):Prop:=
 match o with
 | .set i false=>(ρ i).ab=x
 | .pick c a b=>fH (ρ c) fun q=>(q=true→(ρ a).ab=x)∧(q=false→(ρ b).ab=x)
 | .bin op i j=>dw op (ρ i) (ρ j) fun z=>z=x
 | .shift op i j=>eX op (ρ i) (ρ j) fun z=>z=x
 | .nu neq i j=>dA neq (ρ i) (ρ j) fun z=>z=x
 | .ou kd neq i=>dR kd neq (ρ i) fun z=>z=x
 | .un op i=>CM op (ρ i) fun z=>z=x
 | .qQ i=>(ρ i).val=true∧.ah (ρ i)=x
 | .build z ps=>cr z.cells (ps.map fun q=>(q.1,q.2.1,ρ q.2.2)) fun v=>v=x
 | .buildSlice own esz z len ps=>bi (List.replicate len (a9 z)) esz (ps.map fun q=>(q.1,ρ q.2)) fun xs=>.al own xs=x
 | .load sz i=>a8 sz (ρ i) H fun z=>z=x
 | .nilCheck i=>cw (ρ i) fun z=>z=x
 | .fieldAddr off sz i=>au off sz (ρ i) fun z=>z=x
 | .field off sz i=>gV off sz (ρ i) fun z=>z=x
 | .indexAddr esz i j=>(∀ own xs,ρ i=.al own xs→∀ z∈xs,z.cells.length=esz)∧aG esz (ρ i) (ρ j) fun z=>z=x
 | .ff i j=>bX (ρ i) (ρ j) fun z=>z=x
 | .iR n i j=>cv n (ρ i) (ρ j) fun z=>z=x
 | .slice esz i lo hi mx=>bH esz (ρ i) (lo.map ρ) (hi.map ρ) (mx.map ρ) fun z=>z=x
 | .iS i lo hi=>db (ρ i) (lo.map ρ) (hi.map ρ) fun z=>z=x
 | .len kd i=>aO kd (ρ i)∧fR (ρ i) H fun z=>z=x
 | .lookup kd z m k ok=>dg kd z (ρ m) (ρ k) ok H fun v=>v=x
 | .fn f first cap=>.fn f (first.map fun x=>(ρ x).ab) (cap.map fun x=>(ρ x).ab)=x
 | .extract i k=>bM (ρ i) k fun z=>z=x
 | .call f args none=>match ρ f with
   | .fn (.func g) first cap=>∃ bV,yU (first.map AV.ab++(args.map fun x=>(ρ x).ab)++cap.map AV.ab) bV∧aA P.prog g bV H (fun r H'=>r=x∧H'=H)
   | _=>False
 | .jE k i=>dj k (ρ i) fun z=>z=x
 | .nv i=>jM (ρ i) fun z=>z=x
 | .bytesOf i=>iV 1 (ρ i) fun z=>z=x
 | .wI esz bytes i=>lV esz bytes (ρ i) fun z=>z=x
 | .strOf i=>nF (ρ i) fun z=>z=x
 | .mx big i j=>A0 big (ρ i) (ρ j) fun z=>z=x
 | _=>False
def dv (P:Px) (st:Bool) (o:cu) (ρ:IX→AV) (H:List aa) (x:AV):Prop:=
 match st with
 | true=>dT P o ρ H x
 | false=>∀ H',dT P o ρ H' x
def zU (P:Px) (st:Bool) (o:bO) (env:Env) (H:List aa) (K:Env→Prop):Prop:=
 match o.g with
 | none=>∃ x,dv P st o.op (aE env) H x∧K (put o.dst x env)
 | some (g,want)=>kR env g want (fun _=>∃ x,dv P st o.op (aE env) H x∧K (put o.dst x env)) (fun _=>K (put o.dst (.tuple []) env))
def CB (P:Px):DT→Env→List aa→(Env→List aa→Prop)→Prop
 | .done,env,H,K=>K env H
 | .take st o r,env,H,K=>zU P st o env H fun env=>CB P r env H K
 | .br o t rest,env,H,K=>vI P o env H (fun env H=>CB P t env H K)∧CB P rest env H K
 | .nil,_,_,_=>True
def sle (n0:Nat) (env:Env) (H:List aa) (aW:Env) (H':List aa):Prop:=
 (∀ t,(get env t).le (get aW t))∧(H'=H∨∃ m,n0≤m∧H'=H.take m∧∀ t,(get aW t).bc m=true)
def Ja (n0:Nat) (env:Env) (H:List aa) (aW:Env) (H':List aa):Prop:=
 (∀ t,(get env t).le (get aW t))∧(H'=H∨∃ m,n0≤m∧H'=H.take m∧(∀ id o,n0≤id→id < m→H[id]?=some o→o.bc m=true)∧∀ t,(get aW t).bc m=true)
def Jb (lo:Option Nat) (n0:Nat) (env:Env) (H:List aa) (aW:Env) (H':List aa):Prop:=
 match lo with
 | none=>sle n0 env H aW H'
 | some _=>Ja n0 env H aW H'
def mG (n:Nat) (env:Env):List AV:=(List.range n).map fun t=>(get env t).ab
def behind (id:Nat) (H':List aa) (K:Option Code→List aa→Prop):Prop:=
 match H'[id]? with
 | some (.loop .ready lc es)=>K none (H'.set id (.loop .fQ lc es))
 | some (.loop (.jump c) lc es)=>K (some c) (H'.set id (.loop .fQ lc es))
 | _=>False
def sk (j:Option Code) (Q:Exit→Env→List aa→Prop) (env:Env) (H:List aa):Prop:=
 match j with
 | none=>Q .normal env H
 | some .ret=>Q .ret env H
 | some (.exit id)=>Q (.exit id) env H
 | _=>False
def qp (P:Px) (n0:Nat):IR→Env→List aa→(Exit→Env→List aa→Prop)→Prop
 | .skip,env,H,Q=>Q .normal env H
 | .region ops live,env,H,Q=>mF P ops env H fun aW H'=>Q .normal (ku live aW) H'
 | .draw t live,env,H,Q=>CB P t env H fun aW H'=>Q .normal (ku live aW) H'
 | .seq a b,env,H,Q=>qp P n0 a env H fun e aW H'=>match e with
   | .normal=>qp P n0 b aW H' Q
   | e=>Q e aW H'
 | .cond x a b,env,H,Q=>fH (aE env x) fun q=>(q=true→qp P n0 a env H Q)∧(q=false→qp P n0 b env H Q)
 | .block id a,env,H,Q=>qp P n0 a env H fun e aW H'=>match e with
   | .exit id'=>if id'=id then Q .normal aW H' else Q (.exit id') aW H'
   | e=>Q e aW H'
 | .loop a,env,H,Q=>∃ (ι:Type) (I:ι→Prop) (se:ι→Env) (sh:ι→List aa) (μ:ι→Nat),(∃ i,I i∧Jb P.lo n0 env H (se i) (sh i))∧
    ∀ i,I i→qp P n0 a (se i) (sh i) fun e aW H'=>match e with
     | .normal=>∃ j,I j∧μ j < μ i∧Jb P.lo n0 aW H' (se j) (sh j)
     | e=>Q e aW H'
 | .exit id,env,H,Q=>Q (.exit id) env H
 | .ret,env,H,Q=>Q .ret env H
 | .never,env,H,Q=>False
 | .ma f lc,env,H,Q=>match aE env f with
   | .fn (.func g) first cap=>(∀ (as:Array Value) (w:World),(callFunc g as).run P.prog w=.ok (.enter g as) w)∧
     ∃ bV,yU (first.map AV.ab++[.qm H.length]++cap.map AV.ab) bV∧eD P g bV (H++[.loop .ready lc (mG lc.n env)]) fun _ H'=>behind H.length H' fun j H''=>sk j Q env H''
   | _=>False
def CA.at_ (an:CA) (r i:Nat):Nat:=match an.find? fun x=>x.1 == r && x.2.1 == i with | some x=>x.2.2 | none=>0
def mr.at_ (lv:mr) (r:Nat):Option (List Nat):=(lv.find? fun x=>x.1 == r).map (·.2)
def Hv (n:Nat) (o:Oper):Bool:=(match o.dst with | some d=>d < n | none=>true) && (match o.op with | .store .. | .mapUpdate ..=>o.dst.isNone | _=>true)
def Hw (ops:Array Oper) (o:Oper):Option (Option (Nat×Bool)):=
 match o.guard with
 | none=>some none
 | some (j,want)=>match (ops[j]?).bind (·.dst) with
   | some g=>some (some (g,want))
   | none=>none
def Hy (i:IX) (d:Nat):Bool:=match i with | .t s=>decide (s≠d) | _=>true
def SN (P:Program) (ops:Array Oper) (n:Nat) (fl:Nat) (o o':Oper):Option bO:=
 match fl,o.op,o.dst,o.guard,o'.op,o'.dst,o'.guard with
 | 2,.alloc e,some d,none,.store t (.tmp d') x,none,none=>
   if d=d'∧d < n∧t=e then (match aY x,ey P t,fZ P e with
    | some i,some m,some z=>if Hy i d=true∧z.cells.length=m∧z.val=true∧m≠0 then some ⟨none,some d,.wG m i⟩ else none
    | _,_,_=>none) else none
 | _,_,_,_,_,_,_=>none
def fx (P:Program) (ops:Array Oper) (an:CA) (n rid:Nat) (fu:Bool):Nat→Nat→List Oper→Option (List bO)
 | _,_,[]=>some []
 | 0,_,_=>none
 | fuel + 1,k,o::r=>
   if an.at_ rid k=1000∧fu=true then
    match r with
    | o'::r'=>match SN P ops n 2 o o',fx P ops an n rid fu fuel (k + 2) r' with
      | some x,some xs=>some (x::xs)
      | _,_=>none
    | []=>none
   else
    match Hw ops o,fx P ops an n rid fu fuel (k + 1) r with
    | some g,some xs=>if Hv n o=true then some (⟨g,o.dst,C8 P o (an.at_ rid k)⟩::xs) else none
    | _,_=>none
def cu.all:cu→List IX
 | .set i _=>[i]
 | .pick c a b=>[c,a,b]
 | .bin _ i j | .shift _ i j | .nu _ i j | .indexAddr _ i j | .ff i j | .iR _ i j | .lookup _ _ i j _ | .mx _ i j | .store _ i j | .tB _ i j | .append _ _ i j | .nw _ _ _ i j | .nz _ _ _ i j | .copy _ i j=>[i,j]
 | .tC _ _ i | .Ff _ i | .ou _ _ i | .un _ i | .box i | .qQ i | .wG _ i | .load _ i | .zF _ _ i | .gv i | .nilCheck i | .fieldAddr _ _ i | .field _ _ i | .len _ i | .zG _ _ _ i | .wI _ _ i | .extract i _ | .jE _ i | .nv i | .bytesOf i | .strOf i=>[i]
 | .iQ i s=>[i,.t s]
 | .oS _ i j k=>[i,j,k]
 | .build _ ps=>ps.map fun q=>q.2.2
 | .buildSlice _ _ _ _ ps | .IP _ _ _ ps=>ps.map fun q=>q.2
 | .slice _ i lo hi m | .wH _ i lo hi m=>i::(lo.toList++hi.toList++m.toList)
 | .iS i lo hi=>i::(lo.toList++hi.toList)
 | .fn _ first cap=>first++cap
 | .call f args _=>f::args
 | .alloc _ | .rT | .never=>[]
def IX.Rh:List IX→List Nat:=fun l=>l.filterMap fun i=>match i with | .t s=>some s | .c _=>none
def cu.kill:cu→List Nat
 | .set (.t s) true=>[s]
 | .iQ _ s=>[s]
 | .append _ _ (.t s) _=>[s]
 | .call _ args pass=>(match pass with | some j=>(match args[j]? with | some (.t s)=>[s] | _=>[]) | none=>[])
 | _=>[]
def cu.SO:cu→Bool
 | .box _ | .alloc _ | .gv _ | .store .. | .tB .. | .zF .. | .iQ .. | .zG .. | .rT | .oS .. | .call .. | .copy .. | .Ff .. | .IP .. | .nw .. | .nz .. | .tC .. | .never=>true
 | _=>false
def bO.lk (o:bO):List Nat:=IX.Rh o.op.all++(match o.g with | some (g,_)=>[g] | none=>[])
def cu.VY (o:cu) (pure:Bool):Bool:=
 match o with
 | .set _ take=>!take
 | .call _ _ none=>pure
 | .never | .call .. | .append ..=>false
 | .wG ..=>false
 | o=>!o.SO
def cu.zV:cu→Bool
 | .box _ | .alloc _ | .rT=>true
 | _=>false
def cu.stays:cu→Bool
 | .call ..=>false
 | _=>true
def tM (st:Bool) (oi oj:bO):Bool:=
 (match oi.dst with | some d=>!oj.lk.contains d && oj.dst != some d && !oj.op.kill.contains d | none=>true) &&
 (match oj.dst with | some d=>!oi.lk.contains d | none=>true) &&
 oj.op.kill.all (fun s=>!oi.lk.contains s) && (!st || !oj.op.SO || (oj.op.zV && oi.op.stays))
def dH (ops:Array Oper):Nat→Nat→Nat→Bool
 | 0,_,_=>false
 | f + 1,j,i=>match ops[j]? with
   | some o=>o.after.any fun e=>Region.binds .any e && (e.on == i || dH ops f e.on i)
   | none=>false
def o8 (ops:Array Oper) (il:List bO) (listed:Array Bool) (i:Nat) (st:Bool):Bool:=
 (List.range ops.size).all fun j=>j == i || listed.getD j true || dH ops ops.size j i || tM st (il.getD i default) (il.getD j default)
def vJ (ops:Array Oper) (il:List bO):Nat→Array Bool→Option (List Nat)→yL→Bool
 | _,listed,none,.done=>(Region.ready .any ops listed).isEmpty
 | f + 1,listed,none,.take i st r=>(Region.ready .any ops listed).contains i && (il.getD i default).op.VY true && o8 ops il listed i st && vJ ops il f (listed.setIfInBounds i true) none r
 | f + 1,listed,none,.br i t rest=>(match Region.ready .any ops listed with | k::ks=>k == i && vJ ops il f (listed.setIfInBounds i true) none t && vJ ops il (f + 1) listed (some ks) rest | []=>false)
 | f + 1,listed,some (k::ks),.br i t rest=>k == i && vJ ops il f (listed.setIfInBounds i true) none t && vJ ops il (f + 1) listed (some ks) rest
 | _,_,some [],.nil=>true
 | _,_,_,_=>false
def kS:List Edge→Nat
 | []=>0
 | e::r=>if Region.binds .any e=true then (1 <<< e.on) ||| kS r else kS r
def iX (rs:List Nat):List Edge→Nat
 | []=>0
 | e::r=>if Region.binds .any e=true∧e.on < rs.length then ((1 <<< e.on) ||| rs.getD e.on 0) ||| iX rs r else iX rs r
def fM:List Oper→List Nat→List Nat
 | [],acc=>acc
 | o::r,acc=>fM r (acc++[iX acc o.after.toList])
def nL (m:Nat):Nat→List Nat→List Nat
 | _,[]=>[]
 | i,a::r=>if m.testBit i=false∧a &&& m=a then i::nL m (i + 1) r else nL m (i + 1) r
def Db (m i:Nat) (st:Bool) (oi:bO):Nat→List Nat→List bO→Bool
 | j,r::rs,o::os=>(j == i || m.testBit j || r.testBit i || tM st oi o) && Db m i st oi (j + 1) rs os
 | _,_,[]=>true
 | _,[],_::_=>false
def mH (am rm:List Nat) (il:List bO):Nat→Nat→Option (List Nat)→yL→Bool
 | _,m,none,.done=>(nL m 0 am).isEmpty
 | f + 1,m,none,.take i st r=>(nL m 0 am).contains i && (il.getD i default).op.VY true && Db m i st (il.getD i default) 0 rm il && mH am rm il f (m ||| (1 <<< i)) none r
 | f + 1,m,none,.br i t rest=>(match nL m 0 am with | k::ks=>k == i && mH am rm il f (m ||| (1 <<< i)) none t && mH am rm il (f + 1) m (some ks) rest | []=>false)
 | f + 1,m,some (k::ks),.br i t rest=>k == i && mH am rm il f (m ||| (1 <<< i)) none t && mH am rm il (f + 1) m (some ks) rest
 | _,_,some [],.nil=>true
 | _,_,_,_=>false
def ms.at_ (pl:ms) (r:Nat):yL:=match pl.find? fun x=>x.1 == r with | some x=>x.2 | none=>.done
def comp (P:Program) (an:CA) (lv:mr) (pl:ms) (n:Nat):Code→Option IR
 | .skip=>some .skip
 | .region id ops false=>(fx P ops an n id true (ops.size + 1) 0 ops.toList).map fun l=>.region l (lv.at_ id)
 | .region id ops true=>match fx P ops an n id false (ops.size + 1) 0 ops.toList with
   | some il=>if P.follows .mixedOrders=true∧mH (ops.toList.map fun o=>kS o.after.toList) (fM ops.toList []) il ops.size 0 none (pl.at_ id)=true then some (.draw (inst il (pl.at_ id)) (lv.at_ id)) else none
   | none=>none
 | .seq a b=>match comp P an lv pl n a,comp P an lv pl n b with
   | some x,some y=>some (.seq x y)
   | _,_=>none
 | .cond c a b=>match aY c,comp P an lv pl n a,comp P an lv pl n b with
   | some i,some x,some y=>some (.cond i x y)
   | _,_,_=>none
 | .block id a=>(comp P an lv pl n a).map (.block id)
 | .loop a=>(comp P an lv pl n a).map .loop
 | .exit id=>some (.exit id)
 | .ret=>some .ret
 | .rangeFunc f ps as bd=>(aY f).map fun i=>.ma i ⟨n,ps.toList,as,bd,an,lv,pl⟩
 | _=>some .never
theorem gL (n k:Nat):(1 <<< n).testBit k=decide (n=k):=by
 rw [Nat.shiftLeft_eq,Nat.one_mul,Nat.testBit_two_pow]
theorem FF (m:Nat):∀ (es:List Edge),(kS es &&& m=kS es)↔∀ e∈es,Region.binds .any e=true→m.testBit e.on=true:=by
 have key:∀ a:Nat,(a &&& m=a)↔∀ i,a.testBit i=true→m.testBit i=true:=by
  intro a
  constructor
  ·intro h i hi
   rw [← h] at hi
   simp only [Nat.testBit_and,zC] at hi
   exact hi.2
  ·intro h
   apply Nat.eq_of_testBit_eq
   intro i
   rw [Nat.testBit_and]
   cases ha:a.testBit i with
   | false=>simp
   | true=>simp [h i ha]
 intro es
 rw [key]
 induction es with
 | nil=>simp [kS]
 | cons e r ih=>
   simp only [kS]
   split
   ·rename_i hb
    constructor
    ·intro h e' E7 ew
     rcases aak.1 E7 with rfl | E7
     ·exact h _ (by simp [gL])
     ·exact ih.1 (fun i hi=>h i (by simp [hi])) e' E7 ew
    ·intro h i hi
     simp only [Nat.testBit_or,abU,gL,decide_eq_true_eq] at hi
     rcases hi with rfl | hi
     ·exact h e (by simp) hb
     ·exact ih.2 (fun e' E7 ew=>h e' (aaA _ E7) ew) i hi
   ·rename_i hb
    constructor
    ·intro h e' E7 ew
     rcases aak.1 E7 with rfl | E7
     ·exact absurd ew hb
     ·exact ih.1 h e' E7 ew
    ·intro h
     exact ih.2 (fun e' E7 ew=>h e' (aaA _ E7) ew)
theorem nM {rs:List Nat} {i:Nat}:∀ {es:List Edge},(iX rs es).testBit i=true→∃ e∈es,Region.binds .any e=true∧e.on < rs.length∧(e.on=i∨(rs.getD e.on 0).testBit i=true)
 | [],h=>by simp [iX] at h
 | e::r,h=>by
   simp only [iX] at h
   split at h
   ·rename_i hb
    simp only [Nat.testBit_or,abU,gL,decide_eq_true_eq] at h
    rcases h with h | h
    ·exact ⟨e,by simp,hb.1,hb.2,h⟩
    ·obtain ⟨e',E7,h'⟩:=nM h
     exact ⟨e',aaA _ E7,h'⟩
   ·obtain ⟨e',E7,h'⟩:=nM h
    exact ⟨e',aaA _ E7,h'⟩
theorem w9:∀ (l:List Oper) (acc:List Nat),∃ r,fM l acc=acc++r∧r.length=l.length
 | [],acc=>⟨[],by simp [fM],rfl⟩
 | o::l,acc=>by
   obtain ⟨r,h1,h2⟩:=w9 l (acc++[iX acc o.after.toList])
   exact ⟨iX acc o.after.toList::r,by simp [fM,h1],by simp [h2]⟩
theorem xa:∀ (l:List Oper) (acc:List Nat) (j:Nat) (o:Oper),l[j]?=some o→(fM l acc)[acc.length + j]?=some (iX ((fM l acc).take (acc.length + j)) o.after.toList)
 | [],acc,j,o,h=>by simp at h
 | x::l,acc,0,o,h=>by
   simp at h
   subst h
   simp only [fM]
   obtain ⟨r,h1,h2⟩:=w9 l (acc++[iX acc x.after.toList])
   rw [h1]
   simp
 | x::l,acc,j + 1,o,h=>by
   have ih:=xa l (acc++[iX acc x.after.toList]) j o (by simpa using h)
   simp only [fM]
   simp only [aaj,List.length_cons,List.length_nil] at ih
   rw [show acc.length + (j + 1)=acc.length + (0 + 1) + j by omega]
   exact ih
theorem FG {ops:Array Oper} {i:Nat}:∀ (j f:Nat),j < f→j < ops.size→((fM ops.toList []).getD j 0).testBit i=true→dH ops f j i=true:=by
 intro j
 induction j using Nat.strongRecOn with
 | _ j ih=>
   intro f hf hj h
   have SP:ops[j]?=some ops[j]:=by simp [hj]
   have hg:=xa ops.toList [] j ops[j] (by simp [hj])
   simp only [List.length_nil,abK] at hg
   rw [th,hg,Option.getD_some] at h
   obtain ⟨e,he,hb,aM,Wn⟩:=nM h
   have oH:e.on < j:=by simp at aM;omega
   cases f with
   | zero=>omega
   | succ f=>
     simp only [dH,SP]
     rw [Array.any_eq_true']
     refine ⟨e,by simpa using he,?_⟩
     simp only [zC,abU,beq_iff_eq]
     refine ⟨hb,?_⟩
     rcases Wn with h1 | h1
     ·exact .inl h1
     ·refine .inr (ih e.on oH f (by omega) (by omega) ?_)
      have:((fM ops.toList []).take j).getD e.on 0=(fM ops.toList []).getD e.on 0:=by
       simp [th,aaG,oH]
      rw [this] at h1
      exact h1
def bitsOf (n:Nat) (listed:Array Bool) (m:Nat):Prop:=listed.size=n∧∀ k,m.testBit k=listed.getD k false
theorem xc {n:Nat} {listed:Array Bool} {m i:Nat} (h:bitsOf n listed m) (hi:i < n):bitsOf n (listed.setIfInBounds i true) (m ||| (1 <<< i)):=by
 obtain ⟨h1,h2⟩:=h
 refine ⟨by simp [h1],fun k=>?_⟩
 rw [Nat.testBit_or,h2 k,gL]
 simp only [abH,ad5]
 by_cases hk:i=k
 ·subst hk
  simp [h1,hi]
 ·simp [hk]
theorem xd {ops:Array Oper} {listed:Array Bool} {m:Nat} (hb:bitsOf ops.size listed m):∀ (l:List Oper) (i:Nat),(∀ j,l[j]?=ops[i + j]?)→
 nL m i (l.map fun o=>kS o.after.toList)=(List.range' i l.length).filter fun i=>!listed.getD i true && ((ops[i]?).map (·.after.all fun e=>!Region.binds .any e || listed.getD e.on false)).getD false
 | [],i,_=>by simp [nL]
 | o::l,i,h=>by
   have h0:ops[i]?=some o:=by simpa using (h 0).symm
   have hi:i < ops.size:=(abR.1 h0).1
   have ih:=xd hb l (i + 1) (fun j=>by have:=h (j + 1);simpa [adE,af2 1 j] using this)
   simp only [List.map_cons,nL,List.length_cons,List.range'_succ,List.filter_cons]
   have e1:(m.testBit i=false)↔(listed.getD i true=false):=by
    rw [hb.2 i]
    have:i < listed.size:=by rw [hb.1];exact hi
    simp [Array.getD,this]
   have e2:(kS o.after.toList &&& m=kS o.after.toList)↔(o.after.all fun e=>!Region.binds .any e || listed.getD e.on false)=true:=by
    rw [FF,Array.all_eq_true']
    simp only [Array.mem_toList_iff,abU,abC,hb.2]
    constructor
    ·intro h e he
     cases hbe:Region.binds .any e with
     | false=>exact .inl rfl
     | true=>exact .inr (h e he hbe)
    ·intro h e he hbe
     rcases h e he with h | h
     ·rw [hbe] at h;cases h
     ·exact h
   by_cases hc:m.testBit i=false∧kS o.after.toList &&& m=kS o.after.toList
   ·rw [if_pos hc,if_pos (by rw [h0];simp only [Option.map_some,Option.getD_some,e1.1 hc.1,e2.1 hc.2,Bool.not_false,acj]),ih]
   ·rw [if_neg hc,if_neg (by
     rw [h0]
     simp only [Option.map_some,Option.getD_some,zC,abC]
     intro h'
     exact hc ⟨e1.2 h'.1,e2.2 h'.2⟩),ih]
theorem tN {ops:Array Oper} {listed:Array Bool} {m:Nat} (hb:bitsOf ops.size listed m):nL m 0 (ops.toList.map fun o=>kS o.after.toList)=Region.ready .any ops listed:=by
 rw [xd hb ops.toList 0 (by simp)]
 unfold Region.ready
 simp [List.range_eq_range']
theorem xe {ops:Array Oper} {il:List bO} {listed:Array Bool} {m i:Nat} {st:Bool} {oi:bO} (hb:bitsOf ops.size listed m):∀ (rs:List Nat) (os:List bO) (j:Nat),(∀ k,os[k]?=il[j + k]?)→(∀ k,rs[k]?=(fM ops.toList [])[j + k]?)→Db m i st oi j rs os=true→
 ∀ k,j≤k→k < ops.size→k < il.length→(k == i || listed.getD k true || dH ops ops.size k i || tM st oi (il.getD k default))=true
 | rs,[],j,h1,_,_,k,Rg,_,hk=>by
   have:=h1 (k - j)
   rw [show j + (k - j)=k by omega] at this
   simp at this
   omega
 | [],o::os,j,h1,h2,h,_,_,_,_=>by simp [Db] at h
 | r::rs,o::os,j,h1,h2,h,k,Rg,Fz,sg=>by
   simp only [Db,zC] at h
   by_cases hk:k=j
   ·subst hk
    have ho:il.getD k default=o:=by
     have:=h1 0
     simp at this
     rw [th,← this];rfl
    have hr:(fM ops.toList []).getD k 0=r:=by
     have:=h2 0
     simp at this
     rw [th,← this];rfl
    have h:=h.1
    simp only [abU] at h ⊢
    rcases h with ((h | h) | h) | h
    ·exact .inl (.inl (.inl h))
    ·refine .inl (.inl (.inr ?_))
     rw [hb.2 k] at h
     have:k < listed.size:=by rw [hb.1];exact Fz
     simpa [Array.getD,this] using h
    ·exact .inl (.inr (FG k _ Fz Fz (by rw [hr];exact h)))
    ·rw [ho];exact .inr h
   ·exact xe hb rs os (j + 1) (fun q=>by have:=h1 (q + 1);simpa [adE,af2 1 q] using this) (fun q=>by have:=h2 (q + 1);simpa [adE,af2 1 q] using this) h.2 k (by omega) Fz sg
theorem sl {ops:Array Oper} {listed:Array Bool} {i:Nat} (h:i∈Region.ready .any ops listed):i < ops.size:=by
 unfold Region.ready at h
 simp at h
 exact h.1
theorem K9 {ops:Array Oper} {il:List bO} (dd:il.length=ops.size):∀ (p:yL) (f m:Nat) (listed:Array Bool) (rem:Option (List Nat)),bitsOf ops.size listed m→(∀ ks,rem=some ks→∀ k∈ks,k < ops.size)→
 mH (ops.toList.map fun o=>kS o.after.toList) (fM ops.toList []) il f m rem p=true→vJ ops il f listed rem p=true:=by
 intro p
 induction p with
 | done=>
   intro f m listed rem hb _ h
   cases rem with
   | none=>cases f <;> (simp only [mH,tN hb] at h;simpa [vJ] using h)
   | some ks=>cases ks <;> cases f <;> simp [mH] at h
 | nil=>
   intro f m listed rem hb _ h
   cases rem with
   | none=>cases f <;> simp [mH] at h
   | some ks=>cases ks <;> cases f <;> simp [mH] at h <;> simp [vJ]
 | take i st r ih=>
   intro f m listed rem hb _ h
   cases rem with
   | some ks=>cases ks <;> cases f <;> simp [mH] at h
   | none=>
     cases f with
     | zero=>simp [mH] at h
     | succ f=>
       simp only [mH,tN hb,zC] at h
       obtain ⟨⟨⟨h1,h2⟩,h3⟩,h4⟩:=h
       have hi:i < ops.size:=sl (by simpa using h1)
       simp only [vJ,zC]
       refine ⟨⟨⟨h1,h2⟩,?_⟩,ih _ _ _ _ (xc hb hi) (by simp) h4⟩
       unfold o8
       refine abc.2 fun k hk=>?_
       have KH:k < ops.size:=abG.1 hk
       exact xe hb (fM ops.toList []) il 0 (fun k=>by rw [abK]) (fun k=>by rw [abK]) h3 k (ac6 _) KH (by omega)
 | br i t rest Ri N0=>
   intro f m listed rem hb acv h
   cases f with
   | zero=>cases rem with
     | none=>simp [mH] at h
     | some ks=>cases ks <;> simp [mH] at h
   | succ f=>
     cases rem with
     | none=>
       simp only [mH,tN hb] at h
       simp only [vJ]
       split at h
       ·rename_i k ks hr
        simp only [zC,beq_iff_eq] at h
        obtain ⟨⟨rfl,h1⟩,h2⟩:=h
        have hk:∀ q∈k::ks,q < ops.size:=fun q hq=>sl (by rw [hr];exact hq)
        simp only [zC,beq_iff_eq,true_and]
        exact ⟨Ri _ _ _ _ (xc hb (hk k (by simp))) (by simp) h1,N0 _ _ _ _ hb (fun ks' e q hq=>by cases e;exact hk q (by simp [hq])) h2⟩
       ·cases h
     | some ks=>
       cases ks with
       | nil=>simp [mH] at h
       | cons k ks=>
         simp only [mH,zC,beq_iff_eq] at h
         obtain ⟨⟨rfl,h1⟩,h2⟩:=h
         have hk:=acv _ rfl
         simp only [vJ,zC,beq_iff_eq,true_and]
         exact ⟨Ri _ _ _ _ (xc hb (hk k (by simp))) (by simp) h1,N0 _ _ _ _ hb (fun ks' e q hq=>by cases e;exact hk q (by simp [hq])) h2⟩
theorem Jc (n:Nat):bitsOf n (Array.replicate n false) 0:=⟨by simp,fun k=>by
 simp only [Nat.zero_testBit,abH,af3]
 split <;> rfl⟩
section
variable {ro:Option Nat} {P:Program} {lo:Option Nat} {A:Perm} {n:Nat} {M:Mem} {L:List Nat} {w:World} {H:List aa} {env:Env} {O:Pos→Option Nat} {a:Act} {ev:Nat→Value} {ea:Nat→AV}
def FH (A:Perm) (n:Nat) (M0:Mem) (L0:List Nat) (w0:World) (Q:Exit→Env→List aa→Prop) (e:Exit) (a:Act) (w:World):Prop:=
 ∃ A' M L H env O,A'.Le A∧Q e env H∧Fr A' n M L w H env O a∧Ext A M0 w0 M w∧L0 <+: L
theorem Fr.FI (h:Fr A n M L w H env O a) {aW:Env} (he:get aW=get env):Fr A n M L w H aW O a:=⟨by rw [he];exact h.st,h.size,h.defers⟩
theorem Fr.weaken (h:Fr A n M L w H env O a) {aW:Env} (hl:∀ t,(get env t).le (get aW t)):∃ O',Fr A n M L w H aW O' a:=by
 obtain ⟨O',h'⟩:=h.st.weaken hl
 exact ⟨O',h',h.size,h.defers⟩
theorem le_refl (x:AV):x.le x:=.inl rfl
theorem SQ (x:AV):x.le .any:=.inr (.inl rfl)
theorem zW (live:Option (List Nat)) (env:Env) (t:Nat):(get env t).le (get (ku live env) t):=by
 cases live with
 | none=>exact le_refl _
 | some l=>
   simp only [ku]
   induction l with
   | nil=>exact SQ _
   | cons s l ih=>
     simp only [List.map_cons,get]
     split
     ·rename_i e;subst e;exact le_refl _
     ·exact ih
theorem get_mem {env:Env} {t:Nat} {x:AV} (h:get env t=x):x=.any∨(t,x)∈env:=by
 induction env with
 | nil=>left;exact h.symm
 | cons p r ih=>
   obtain ⟨k,v⟩:=p
   simp only [get] at h
   split at h
   ·rename_i e;subst e;subst h;right;simp
   ·rcases ih h with h' | h'
    ·exact .inl h'
    ·exact .inr (aaA _ h')
theorem ax (n0:Nat) (env:Env) (H:List aa):sle n0 env H env H:=⟨fun t=>le_refl _,.inl rfl⟩
def gf (lo:Option Nat) (n0:Nat) (A:Perm):Prop:=(∀ id,id < n0→∃ m,m≤n0∧A.top id=some m)∧match lo with
 | none=>∀ id,n0≤id→A.top id=some (id + 1)
 | some l=>l=n0∧∀ id,n0≤id→A.top id=none
theorem gf.opens {n0:Nat} (h:gf lo n0 A):∀ l,lo=some l→∀ id,l≤id→A.top id=none:=by
 rintro l rfl id bF
 obtain ⟨_,rfl,h⟩:=h
 exact h id bF
theorem gf.low {n0 m:Nat} (h:gf lo n0 A) (hm:n0≤m) (hs:St A M L w H ev ea O):∀ id o,id < n0→H[id]?=some o→o.bc m=true:=by
 intro id o bF ho
 obtain ⟨k,hk,e⟩:=h.1 id bF
 have:=hs.bJ id o ho
 refine aa.cH ?_ o this
 unfold Perm.jk
 rw [e]
 exact abW (afX _ _) (by omega)
theorem gf.closed {n0 m:Nat} (h:gf none n0 A) (hm:n0≤m) (hs:St A M L w H ev ea O):∀ id o,id < m→H[id]?=some o→o.bc m=true:=by
 intro id o bF ho
 by_cases e:id < n0
 ·exact h.low hm hs id o e ho
 ·have e1:=h.2 id (by omega)
  have:=hs.bJ id o ho
  refine aa.cH ?_ o this
  unfold Perm.jk
  rw [e1]
  exact abW (afX _ _) (by omega)
theorem Fr.sle (h:Fr A n M L w H env O a) {aW:Env} {H':List aa} {L0:List Nat} (hA:gf lo L0.length A) (hL:L0 <+: L) (hl:Jb lo L0.length env H aW H'):∃ L' O',Fr A n M L' w H' aW O' a∧L0 <+: L':=by
 have xf:Ja L0.length env H aW H':=by
  unfold Jb at hl
  split at hl
  ·obtain ⟨h1,h2⟩:=hl
   refine ⟨h1,?_⟩
   rcases h2 with rfl | ⟨m,hm,rfl,hb⟩
   ·exact .inl rfl
   ·exact .inr ⟨m,hm,rfl,fun id o _ bF ho=>hA.closed hm h.st id o bF ho,hb⟩
  ·exact hl
 obtain ⟨h1,h2⟩:=xf
 obtain ⟨O',hf⟩:=h.weaken h1
 rcases h2 with rfl | ⟨m,hm,rfl,hc,hb⟩
 ·exact ⟨L,O',hf,hL⟩
 ·obtain ⟨O'',bT⟩:=hf.st.cut m (fun id o bF ho=>by
   by_cases e:id < L0.length
   ·exact hA.low hm hf.st id o e ho
   ·exact hc id o (by omega) bF ho) hb
  refine ⟨L.take m,O'',⟨bT,hf.size,hf.defers⟩,?_⟩
  obtain ⟨r,rfl⟩:=hL
  exact ⟨r.take (m - L0.length),by rw [af9,aax hm]⟩
theorem Bo {ops:Array Oper} {j g:Nat} (hg:(ops[j]?).bind (·.dst)=some g) (hf:Fr A n M L w H env O a) {b:Bool} (hb:get env g=.bool b):yielded ops a.tmps j=some b:=by
 have hr:=hf.st.env g
 rw [hb] at hr
 generalize hv:a.tmps.getD g undef=v at hr
 cases hr
 have:a.tmps[g]?=some (.bool b):=by
  rw [abH] at hv
  cases h:a.tmps[g]? with
  | none=>rw [h] at hv;cases hv
  | some v=>rw [h] at hv;simp at hv;rw [hv]
 simp [yielded,hg,this]
theorem yY {ops:Array Oper} {j g:Nat} (hg:(ops[j]?).bind (·.dst)=some g) (hf:Fr A n M L w H env O a) (hb:get env g=.tuple []):yielded ops a.tmps j=none:=by
 have hr:=hf.st.env g
 rw [hb] at hr
 generalize hv:a.tmps.getD g undef=v at hr
 cases hr with
 | tuple cs _ h=>
 rw [abH] at hv
 simp only [yielded,hg,Option.bind_some]
 cases h:a.tmps[g]? with
 | none=>rfl
 | some v=>rw [h] at hv;simp at hv;rw [hv]
theorem zX {ops:Array Oper} {o:Oper} {fl:Nat} {g:Option (Nat×Bool)} (hg:Hw ops o=some g) (g9:Hv n o=true) (hp:∀ l,lo=some l→∀ id,l≤id→A.top id=none) (hf:Fr A n M L w H env O a) {K:Env→List aa→Prop} (h:vI ⟨P,lo⟩ ⟨g,o.dst,C8 P o fl⟩ env H K) (Q:Exit→Act→World→Prop) :
 if Region.wanted o (yielded ops a.tmps) then o.wpIn (wf ro) 0 P a w (oF A n M L w K) Q else oF A n M L w K (a.put o.dst undef) w:=by
 simp only [Hv,zC] at g9
 have hd:∀ d,o.dst=some d→d < n:=by
  intro d hd
  have:=g9.1
  rw [hd] at this
  simpa using this
 have hn:(match o.op with | .store .. | .mapUpdate ..=>o.dst=none | _=>True):=by
  have:=g9.2
  split at this <;> first | trivial | skip
  ·simpa using this
  ·simpa using this
 unfold Hw at hg
 split at hg
 ·rename_i N1
  cases hg
  rw [if_pos (by simp [Region.wanted,N1])]
  exact uR o hp hf hd hn h
 ·rename_i j want N1
  split at hg <;> cases hg
  rename_i g hgj
  simp only [vI,kR] at h
  split at h
  rotate_left
  ·rename_i hb
   have hy:=yY hgj hf hb
   rw [if_neg (by simp [Region.wanted,N1,hy])]
   obtain ⟨O',qo⟩:=hf.oQ (dst:=o.dst) (v:=undef) (x:=.tuple []) hd (.tuple [] [] .nil) (by intro _ _ e;cases e)
   exact ⟨M,L,H,_,O',h,qo,Ext.refl A M w,aaD L⟩
  ·exact h.elim
  rename_i b hb
  have hy:=Bo hgj hf hb
  have WE:get ((g,AV.bool b)::env)=get env:=by
   rw [KM];funext t;simp only [gR];split
   ·rename_i e;rw [e,hb]
   ·rfl
  by_cases hw:b=want
  ·subst hw
   rw [if_pos (by simp [Region.wanted,N1,hy])]
   exact uR o hp (hf.FI WE) hd hn (h.1 rfl)
  ·have VZ:b=!want:=by cases b <;> cases want <;> simp_all
   subst VZ
   rw [if_neg (by simp [Region.wanted,N1,hy])]
   obtain ⟨O',qo⟩:=(hf.FI WE).oQ (dst:=o.dst) (v:=undef) (x:=.tuple []) hd (.tuple [] [] .nil) (by intro _ _ e;cases e)
   exact ⟨M,L,H,_,O',h.2 rfl,qo,Ext.refl A M w,aaD L⟩
theorem oF.trans {K K':Env→List aa→Prop} {M':Mem} {L':List Nat} {w':World} {a':Act} {w'':World} (dS:Ext A M w M' w') (hL:L <+: L') (h:oF A n M' L' w' K a' w''):oF A n M L w K a' w'':=by
 obtain ⟨M2,L2,H2,dq,O2,h1,h2,h3,h4⟩:=h
 exact ⟨M2,L2,H2,dq,O2,h1,h2,dS.trans h3,hL.trans h4⟩
theorem Dc (w:World) (c c':Array Value) (e:TypeId):({ w with heap:=w.heap.push (.cells c e) }:World).setRow w.heap.size c'={ w with heap:=w.heap.push (.cells c' e) }:=by
 simp only [World.setRow]
 congr 1
 apply Array.ext
 ·simp
 ·intro i h1 h2
  rw [agf]
  by_cases hi:w.heap.size=i
  ·subst hi;simp
  ·simp only [hi,if_false]
   have:i < w.heap.size:=by simp at h2;omega
   rw [afg this,afg this]
theorem FJ {ops:Array Oper} {o o':Oper} {x:bO} (hx:SN P ops n 2 o o'=some x) (hf:Fr A n M L w H env O a) {K:Env→List aa→Prop} (h:vI ⟨P,lo⟩ x env H K) (r:List Oper) (Q:Exit→Act→World→Prop)
 (hrest:∀ a' w',oF A n M L w K a' w'→wpListIn (wf ro) 0 P ops Q r a' w'):wpListIn (wf ro) 0 P ops Q (o::o'::r) a w:=by
 unfold SN at hx
 split at hx <;> try cases hx
 rename_i e d t d' y _ c9 g9 N1 acw WG acx
 split at hx <;> try cases hx
 rename_i hcond
 obtain ⟨rfl,Wz,rfl⟩:=hcond
 split at hx <;> try cases hx
 rename_i i m z hi hm hz
 split at hx <;> cases hx
 rename_i hcond
 obtain ⟨dP,gW,qx,CX⟩:=hcond
 simp only [vI,bE] at h
 obtain ⟨nD,jY,lT,hK⟩:=h
 have hr:=hf.eval hi
 have Ow:=hr.gU nD
 have rO:=Ow.length
 -- the zero value
 obtain ⟨inf,iT,dd⟩:=aal.1 hm
 unfold fZ at hz
 simp only [iT] at hz
 split at hz <;> try cases hz
 rename_i zv tH
 have vV:zv.cells.size=m:=by have:=((cQ (M:=M) (L:=L) hz).gU qx).length;rw [gW] at this;simpa using this
 have hrun1:(execOp a.eval o).run P w=.ok (.value (.pointer (some ⟨w.heap.size,0,none⟩))) { w with heap:=w.heap.push (.cells zv.cells t) }:=by
  simp only [execOp,c9]
  exact bb (by simp only [Instr.alloc,zeroValue,typeInfo,Sem.run_bind,run_program,Result.andThen_ok,iT,Sem.run_pure,tH];rfl)
 have hsize:d < a.tmps.size:=by rw [hf.size];exact Wz
 have SF:(a.put (some d) (.pointer (some ⟨w.heap.size,0,none⟩))).eval (.tmp d)=.pointer (some ⟨w.heap.size,0,none⟩):=by
  show (a.put (some d) _).tmps.getD d undef=_
  rw [wJ a d _ hsize d];simp [gR]
 have acy:(a.put (some d) (.pointer (some ⟨w.heap.size,0,none⟩))).eval y=a.eval y:=by
  cases y with
  | tmp s=>
    simp [aY] at hi;subst hi
    simp [Hy] at dP
    show (a.put (some d) _).tmps.getD s undef=a.tmps.getD s undef
    rw [wJ a d _ hsize s];simp [gR,dP]
  | _=>rfl
 have bT:=run_storeCells_at P w.heap.size 0 t (a.eval y).cells.toList 0 zv.cells { w with heap:=w.heap.push (.cells zv.cells t) } (eo w _) (by simp at rO ⊢;omega) (Ow.iO lT)
 have hwhole:(zv.cells.toList.take (0 + 0)++(a.eval y).cells.toList++zv.cells.toList.drop (0 + 0 + (a.eval y).cells.toList.length)).toArray=(a.eval y).cells:=by
  have:zv.cells.toList.drop (0 + 0 + (a.eval y).cells.toList.length)=[]:=af6 (by simp at rO ⊢;omega)
  rw [this];simp
 rw [hwhole,Dc] at bT
 have hrun2:(execOp (a.put (some d) (.pointer (some ⟨w.heap.size,0,none⟩))).eval o').run P { w with heap:=w.heap.push (.cells zv.cells t) }=.ok .skip { w with heap:=w.heap.push (.cells (a.eval y).cells t) }:=by
  simp only [execOp,acw,SF,acy]
  refine sc ?_
  have hs:(sizeOf t).run P { w with heap:=w.heap.push (.cells zv.cells t) }=.ok m { w with heap:=w.heap.push (.cells zv.cells t) }:=by simp [sizeOf,typeInfo,iT,dd]
  simp only [Instr.storeAt,Instr.sureAddr,storeVar,Sem.run_bind,Sem.run_pure,Result.andThen_ok,hs,ne_eq]
  rw [if_neg (by simp at rO;omega)]
  exact bT
 obtain ⟨g1,g2,g3⟩:=hf.st.Fc (a.eval y).cells t
 have gr:a7 (M.add w.heap.size (a.eval y).cells.toList) L (.pointer (some ⟨w.heap.size,0,none⟩)) (.ah (aE env i)):=.ah _ _ _ _ (Ow.mono g2.oD (aaD _)) g3
 obtain ⟨O',qo⟩:=(hf.mono g1 g2).oQ (dst:=some d) (fun d' e=>by cases e;exact Wz) gr (by intro _ _ e;cases e)
 have mI:=hrest _ _ ⟨_,L,H,_,O',hK,qo,g2,aaD L⟩
 unfold wpListIn
 rw [if_pos (by simp [Region.wanted,N1])]
 refine mw hrun1 (by intro d e;cases e) ?_
 rw [Oper.uponIn_value,g9]
 unfold wpListIn
 rw [if_pos (by simp [Region.wanted,acx])]
 refine mw hrun2 (by intro d e;cases e) ?_
 rw [Oper.uponIn_skip,WG]
 exact mI
theorem qU {ops:Array Oper} {an:CA} {rid:Nat} {fu:Bool} (hp:∀ l,lo=some l→∀ id,l≤id→A.top id=none) (Q:Exit→Act→World→Prop):∀ (fuel k:Nat) (l:List Oper) (il:List bO),fx P ops an n rid fu fuel k l=some il→∀ {M:Mem} {L:List Nat} {w:World} {H:List aa} {env:Env} {O:Pos→Option Nat} {a:Act} (K:Env→List aa→Prop),
 Fr A n M L w H env O a→mF ⟨P,lo⟩ il env H K→(∀ a' w',oF A n M L w K a' w'→Q .normal a' w')→wpListIn (wf ro) 0 P ops Q l a w
 | _,_,[],il,hc,M,L,w,H,env,O,a,K,hf,h,hQ=>by
   unfold fx at hc
   cases hc
   exact hQ a w ⟨M,L,H,env,O,h,hf,Ext.refl A M w,aaD L⟩
 | 0,_,o::r,il,hc,_,_,_,_,_,_,_,_,_,_,_=>by simp [fx] at hc
 | fuel + 1,k,o::r,il,hc,M,L,w,H,env,O,a,K,hf,h,hQ=>by
   unfold fx at hc
   split at hc
   ·-- a new variable with its first value
    split at hc <;> try cases hc
    rename_i o' r'
    split at hc <;> cases hc
    rename_i x xs hx fe
    simp only [mF] at h
    refine FJ hx hf h r' Q ?_
    rintro a' w' ⟨M',L',H',aW,O',k1,k2,k3,k4⟩
    exact qU hp Q fuel (k + 2) r' xs fe K k2 k1 (fun a2 w2 h2=>hQ a2 w2 (oF.trans (K':=K) k3 k4 h2))
   ·split at hc <;> try cases hc
    rename_i g xs hg fe
    split at hc <;> cases hc
    rename_i g9
    simp only [mF] at h
    have h1:=zX (ro:=ro) (ops:=ops) hg g9 hp hf h Q
    have hrest:∀ a' w',oF A n M L w (fun env H=>mF ⟨P,lo⟩ xs env H K) a' w'→wpListIn (wf ro) 0 P ops Q r a' w':=by
     rintro a' w' ⟨M',L',H',aW,O',k1,k2,k3,k4⟩
     exact qU hp Q fuel (k + 1) r xs fe K k2 k1 (fun a2 w2 h2=>hQ a2 w2 (oF.trans (K':=K) k3 k4 h2))
    unfold wpListIn
    split
    ·rename_i hw
     rw [if_pos hw] at h1
     exact Oper.wpIn_mono hrest h1
    ·rename_i hw
     rw [if_neg hw] at h1
     exact ⟨fun _ _=>trivial,hrest _ _ h1⟩
theorem FH.trans {A':Perm} {M0 M1:Mem} {L0:List Nat} {w0 w1:World} {Q:Exit→Env→List aa→Prop} {e:Exit} {a:Act} {w:World} (hl:A'.Le A) (hx:Ext A M0 w0 M1 w1) (hp:FH A' n M1 L0 w1 Q e a w):FH A n M0 L0 w0 Q e a w:=by
 obtain ⟨A2,M,L,H,env,O,hA,h1,h2,h3,h4⟩:=hp
 exact ⟨A2,M,L,H,env,O,hA.trans hl,h1,h2,hx.trans (h3.le hl),h4⟩
theorem gf.le {n0:Nat} {A':Perm} (h:gf lo n0 A) (hl:A'.Le A):gf lo n0 A':=by
 unfold gf at *
 rw [hl.1]
 exact h
def Own (ro:Option Nat) (w:World):Prop:=∀ l,ro=some l→∃ r,w.heap[l]?=some (.loop r)
theorem Own.ext {M':Mem} {w':World} (h:Own ro w) (hx:Ext A M w M' w'):Own ro w':=fun l hl=>by
 obtain ⟨r,hr⟩:=h l hl
 obtain ⟨r',hr',_⟩:=hx.loops l r hr
 exact ⟨r',hr'⟩
theorem Jd (p:Nat→Prop) (h:∃ k,p k):∃ k,p k∧∀ j,p j→k≤j:=by
 obtain ⟨k,hk⟩:=h
 induction k using Nat.strongRecOn with
 | _ k ih=>
   by_cases hl:∃ j,j < k∧p j
   ·obtain ⟨j,hj,hp⟩:=hl
    exact ih j hj hp
   ·exact ⟨k,hk,fun j hj=>by
     rcases aeQ j k with h' | h'
     ·exact absurd ⟨j,h',hj⟩ hl
     ·exact h'⟩
theorem Bp {F:Fence} {k:Nat} {c:Code} {Q:Exit→Act→World→Prop} {w:World} {a:Act} {ι:Type} (I:ι→Act→World→Prop) (μ:ι→Nat)
 (round:∀ i a w,I i a w→c.wpIn F k P (Exit.then (fun a' w'=>∃ j,I j a' w'∧μ j < μ i) Q) a w) (i0:ι) (h0:I i0 a w):(Code.loop c).wpIn F k P Q a w:=by
 let p:Act→World→Nat→Prop:=fun a w k=>∃ i,I i a w∧μ i=k
 let ν:Act→World→Nat:=fun a w=>Classical.epsilon fun k=>p a w k∧∀ j,p a w j→k≤j
 have hν:∀ a w,(∃ i,I i a w)→p a w (ν a w)∧∀ j,p a w j→ν a w≤j:=by
  rintro a w ⟨i,hi⟩
  exact Classical.epsilon_spec (Jd (p a w) ⟨μ i,i,hi,rfl⟩)
 refine wpIn_loop (fun a w=>∃ i,I i a w) ν ⟨i0,h0⟩ ?_
 intro a w hI
 obtain ⟨⟨i,hi,hμ⟩,_⟩:=hν a w hI
 refine Go.wpIn_mono (round i a w hi) ?_
 intro e a' w' h
 cases e with
 | normal=>
   obtain ⟨j,hj,aM⟩:=h
   refine ⟨⟨j,hj⟩,?_⟩
   have:=(hν a' w' ⟨j,hj⟩).2 (μ j) ⟨j,hj,rfl⟩
   omega
 | _=>exact h
def zY (P:Program) (ro lo:Option Nat) (A:Perm) (n:Nat) (L0:List Nat):Prop:=
 ∀ {id:Nat} {ops:Array Oper} {il:List bO} {p:yL} {live:Option (List Nat)} {an:CA} {M:Mem} {L:List Nat} {w:World} {H:List aa} {env:Env} {O:Pos→Option Nat} {a:Act} {M0:Mem} {w0:World} {Q:Exit→Env→List aa→Prop},
  P.follows .mixedOrders=true→mH (ops.toList.map fun o=>kS o.after.toList) (fM ops.toList []) il ops.size 0 none p=true→fx P ops an n id false (ops.size + 1) 0 ops.toList=some il→qp ⟨P,lo⟩ L0.length (.draw (inst il p) live) env H Q→Fr A n M L w H env O a→Ext A M0 w0 M w→L0 <+: L→(Code.region id ops true).wpIn (wf ro) 0 P (FH A n M0 L0 w0 Q) a w
theorem Dd {L0:List Nat} (hA:gf lo L0.length A) {f:Operand} {ps:Array Tmp} {as bd:Code} {an:CA} {lv:mr} {pl:ms} {i:IX} (hi:aY f=some i) {Q:Exit→Env→List aa→Prop}
 (yH:Own ro w) (h:qp ⟨P,lo⟩ L0.length (.ma i ⟨n,ps.toList,as,bd,an,lv,pl⟩) env H Q) (hf:Fr A n M L w H env O a) (hL:L0 <+: L):(Code.rangeFunc f ps as bd).wpIn (wf ro) 0 P (FH A n M L0 w Q) a w:=by
 have NZ:=hf.eval hi
 simp only [qp] at h
 split at h <;> try exact h.elim
 rename_i g first cap WB
 obtain ⟨hcf,bV,hle,hcall⟩:=h
 rw [WB] at NZ
 generalize hu:a.eval f=u at NZ
 cases NZ with
 | fn _ fs cs _ _ Bl tJ=>
 refine wpIn_rangeFunc fun fn _=>?_
 -- the record
 have enter:∃ (l:Nat) (mark:List Deferred) (w1:World) (A1:Perm),(Instr.enterLoop fn a.tmps ps as bd ro).run P w=.ok (l,mark) w1∧A1.Le A∧
  Fr A1 n M (L++[l]) w1 (H++[.loop .ready ⟨n,ps.toList,as,bd,an,lv,pl⟩ (mG n env)]) env O { a with defers:=mark++a.defers }∧Ext A M w M w1:=by
  have yS:aP M L a.tmps.toList (mG n env):=by
   refine aP.AW (by simp [mG,hf.size]) fun j x hx=>?_
   simp only [mG,abZ] at hx
   obtain ⟨t,ht,rfl⟩:=aal.1 hx
   obtain ⟨lA,rfl⟩:=aa2.1 ht
   simp only [List.length_range] at lA
   simp only [List.getElem_range]
   have:=(hf.st.env j).ab
   refine ⟨a.tmps.getD j undef,?_,this⟩
   rw [abH,ad8,aeb (by rw [hf.size];exact lA)]
   rfl
  have nj:(aa.loop .ready ⟨n,ps.toList,as,bd,an,lv,pl⟩ (mG n env)).bc (H.length + 1)=true:=by
   simp only [aa.bc]
   have:=yS.OG
   rw [hf.st.len] at this
   exact bI (by omega) _ this
  cases ro with
  | none=>
    have hg:=hf.st.grow (w':={ w with heap:=w.heap.push (.deferred (some [])) }) (Mem.b8 M) (fun b o v hv=>by
     have h1:=hf.st.mem b o v hv
     simp only [World.cell?] at h1 ⊢
     cases hb:w.heap[b]? with
     | none=>rw [hb] at h1;simp at h1
     | some ob=>rw [eW w _ (abR.1 hb).1];exact h1) (by simp) (fun b hb=>eW w _ hb) (fun _ _ _=>rfl)
    have vZ:Ext A M w M { w with heap:=w.heap.push (.deferred (some [])) }:=Ext.grow (Mem.b8 M) (by simp) rfl rfl rfl (fun b hb=>eW w _ hb) (fun _ _ _=>rfl)
    have hb:=hg.WD (D:=w.heap.size) (fun hm=>by have:=hf.st.lt _ hm;omega) (fun p hp=>by have:=hf.st.iA _ _ hp;omega) (by simp)
    obtain ⟨g1,g2⟩:=hb.tA (.loop { state:=.ready,pending:=none,fn,tmps:=a.tmps,params:=ps,assign:=as,body:=bd,defers:=w.heap.size }) (.loop .ready ⟨n,ps.toList,as,bd,an,lv,pl⟩ (mG n env))
     (fun w' KV _=>⟨_,KV,(age).symm,rfl,rfl,yS.mono (Mem.b8 M) ⟨_,rfl⟩,rfl,rfl⟩) nj (fun j=>rfl)
    refine ⟨w.heap.size + 1,_,_,A.WD w.heap.size,run_enterLoop_outer _ _ _ _ _,A.Bn _,⟨?_,hf.size,?_⟩,?_⟩
    ·have e1:({ w with heap:=w.heap.push (.deferred (some [])) }:World).heap.size=w.heap.size + 1:=by simp
     rw [e1] at g1
     exact g1
    ·have old:=((hf.defers.ext vZ).le (A.Bn w.heap.size)).ext g2
     refine ⟨old.1,?_,fun d hd=>?_⟩
     ·show (_::a.defers).Nodup
      rw [List.nodup_cons]
      refine ⟨fun hm=>?_,old.2.1⟩
      obtain ⟨D,e,hD,_⟩:=hf.defers.2.2 _ hm
      cases e
      have:=(abR.1 hD).1
      omega
     rcases abF.1 hd with hd | hd
     ·rw [aay] at hd
      subst hd
      refine ⟨w.heap.size,rfl,?_,(fun h=>h.2 rfl),(show A.base≤w.heap.size from hf.defers.1)⟩
      show ((w.heap.push _).push _)[w.heap.size]?=_
      rw [Array.getElem?_push_lt (by simp)]
      simp
     ·exact old.2.2 d hd
    ·exact vZ.trans (g2.le (A.Bn _))
  | some l0=>
    obtain ⟨r0,hr0⟩:=yH l0 rfl
    obtain ⟨g1,g2⟩:=hf.st.tA (.loop { state:=.ready,pending:=none,fn,tmps:=a.tmps,params:=ps,assign:=as,body:=bd,defers:=r0.defers }) (.loop .ready ⟨n,ps.toList,as,bd,an,lv,pl⟩ (mG n env))
     (fun w' KV _=>⟨_,KV,(age).symm,rfl,rfl,yS.mono (Mem.b8 M) ⟨_,rfl⟩,rfl,rfl⟩) nj (fun j=>rfl)
    exact ⟨w.heap.size,[],_,A,run_enterLoop_inner hr0 _ _ _ _ _,Perm.Le.refl A,⟨g1,hf.size,by simpa using hf.defers.ext g2⟩,g2⟩
 obtain ⟨l,mark,w1,A1,he,FK,E6,vZ⟩:=enter
 have Je:L.length=H.length:=hf.st.len
 have tO:(L++[l])[H.length]?=some l:=by rw [← Je];simp
 have SR:gf lo L0.length A1:=hA.le FK
 obtain ⟨loose,tn,hcall⟩:∃ loose:Bool,(loose=true→∀ id,(H++[aa.loop .ready ⟨n,ps.toList,as,bd,an,lv,pl⟩ (mG n env)]).length≤id→A1.top id=none)∧
  l7 loose P g bV (H++[.loop .ready ⟨n,ps.toList,as,bd,an,lv,pl⟩ (mG n env)]) fun _ H'=>behind H.length H' fun j H''=>sk j Q env H'':=by
  unfold eD at hcall
  split at hcall
  ·exact ⟨false,by simp,hcall⟩
  ·rename_i l' xf
   rcases hcall with hcall | ⟨h1,hcall⟩
   ·exact ⟨false,by simp,hcall⟩
   ·exact ⟨true,fun _ id bF=>SR.opens l' xf id (by omega),hcall⟩
 have hry:aP M (L++[l]) (fs++[.func (.yield l) #[] #[]]) (first++[.qm H.length]):=
  (Bl.mono (Mem.b8 M) ⟨_,rfl⟩).append (.one (.qm l _ tO))
 obtain ⟨Oc,rO,bT,fin⟩:=tL (o:=(⟨none,.move f,0, "",#[],none⟩:Oper)) (K:=fun aW H'=>aW=env∧behind H.length H' fun j H''=>sk j Q env H'') (xs:=[]) (js:=[]) rfl (pass:=none) hry (tJ.mono (Mem.b8 M) ⟨[l],rfl⟩)
  (by simpa [aQ,AV.ab] using hle) E6 (fun d e=>by cases e) tn
 obtain ⟨vs,wP⟩:∃ vs:List Value,vs=fs++[.func (.yield l) #[] #[]]++cs:=⟨_,rfl⟩
 simp only [List.map_nil,abJ] at rO bT
 rw [← wP] at rO bT
 refine ⟨l,mark,w1,{ target:=.fn (.func g) cs.toArray,args:=fs.toArray++#[.func (.yield l) #[] #[]] },w1,g,vs.toArray,w1,he,?_,fun _ _=>trivial,?_,(fun h=>by cases h),?_⟩
 ·have ec:a.eval (.const (.func (.yield l) #[] #[]))=.func (.yield l) #[] #[]:=rfl
  simp [resolve,hu,Deferred.ofValue,ec]
 ·have e1:(fs.toArray++#[.func (.yield l) #[] #[]]++cs.toArray:Array Value)=vs.toArray:=by
   apply Array.ext';simp [wP]
  simp only [invoke]
  rw [e1]
  exact hcf _ _
 ·rcases hcall (dO A1 loose (H++[aa.loop .ready ⟨n,ps.toList,as,bd,an,lv,pl⟩ (mG n env)]) (L++[l]) Oc w1) M (L++[l]) w1 vs.toArray Oc (l9 A1 loose _ _ Oc w1) (by simpa using rO) bT with ⟨_,hc⟩ | ⟨v,w',r,H',M',L',O',h1,_⟩
  ·have nG:CallsIn (wf ro) (0 - 1) P g vs.toArray w1 _:=callsIn_wide.2 hc
   refine CallsIn.mono nG fun e w' he=>?_
   obtain ⟨v,r,H',M',L',O',rfl,hK,nH,dS,hL'⟩:=he
   obtain ⟨M2,L2,H2,dq,O2,⟨rfl,hb⟩,uP,Rj,SS⟩:=fin v r H' M' L' O' w' ⟨rfl,hK⟩ nH dS hL'
   have lZ:L2[H.length]?=some l:=gQ SS tO
   have ns:L0 <+: L2:=hL.trans ((List.prefix_append L [l]).trans SS)
   unfold behind at hb
   split at hb
   ·rename_i lc es FL
    obtain ⟨r,q1,q2,q3,q4,q5,q6⟩:=uP.st.obj _ _ l FL lZ
    obtain ⟨k1,k2⟩:=uP.st.pP (st':=.fQ) (r':={ r with state:=.exhausted }) FL lZ (fun r2 tJ=>by rw [q1] at tJ;cases tJ;exact ⟨rfl,rfl,rfl,rfl,rfl,trivial⟩)
    exact ⟨none,_,(run_endLoop q1 (by rw [q6.1];simp)).trans (congrArg (fun p=>Result.ok p _) q6.2),A1,M2,L2,_,dq,O2,FK,hb,⟨k1,uP.size,uP.defers.ext k2⟩,vZ.trans ((Rj.trans k2).le FK),ns⟩
   ·rename_i c lc es FL
    obtain ⟨r,q1,q2,q3,q4,q5,q6⟩:=uP.st.obj _ _ l FL lZ
    obtain ⟨k1,k2⟩:=uP.st.pP (st':=.fQ) (r':={ r with state:=.exhausted }) FL lZ (fun r2 tJ=>by rw [q1] at tJ;cases tJ;exact ⟨rfl,rfl,rfl,rfl,rfl,trivial⟩)
    refine ⟨some c,_,(run_endLoop q1 (by rw [q6.1];simp)).trans (congrArg (fun p=>Result.ok p _) q6.2),?_⟩
    unfold sk at hb
    split at hb
    ·rename_i e;cases e
    ·rename_i e;cases e
     exact wpIn_ret ⟨A1,M2,L2,_,dq,O2,FK,hb,⟨k1,uP.size,uP.defers.ext k2⟩,vZ.trans ((Rj.trans k2).le FK),ns⟩
    ·rename_i e;cases e
     exact wpIn_exit ⟨A1,M2,L2,_,dq,O2,FK,hb,⟨k1,uP.size,uP.defers.ext k2⟩,vZ.trans ((Rj.trans k2).le FK),ns⟩
    ·exact hb.elim
   ·exact hb.elim
  ·rw [hcf] at h1;cases h1
theorem sound {L0:List Nat} (hdraw:∀ A,gf lo L0.length A→zY P ro lo A n L0) {an:CA} {lv:mr} {pl:ms}:∀ (c:Code) (ir:IR),comp P an lv pl n c=some ir→∀ {A:Perm} {M:Mem} {L:List Nat} {w:World} {H:List aa} {env:Env} {O:Pos→Option Nat} {a:Act} {Q:Exit→Env→List aa→Prop},
 gf lo L0.length A→Own ro w→qp ⟨P,lo⟩ L0.length ir env H Q→Fr A n M L w H env O a→L0 <+: L→c.wpIn (wf ro) 0 P (FH A n M L0 w Q) a w:=by
 intro c
 induction c with
 | skip=>
   intro ir hc A M L w H env O a Q hA yH h hf hL
   simp only [comp] at hc;cases hc
   exact wpIn_skip ⟨A,M,L,H,env,O,.refl A,h,hf,Ext.refl A M w,hL⟩
 | exit id=>
   intro ir hc A M L w H env O a Q hA yH h hf hL
   simp only [comp] at hc;cases hc
   exact wpIn_exit ⟨A,M,L,H,env,O,.refl A,h,hf,Ext.refl A M w,hL⟩
 | ret=>
   intro ir hc A M L w H env O a Q hA yH h hf hL
   simp only [comp] at hc;cases hc
   exact wpIn_ret ⟨A,M,L,H,env,O,.refl A,h,hf,Ext.refl A M w,hL⟩
 | region id ops draw=>
   intro ir hc A M L w H env O a Q hA yH h hf hL
   cases draw with
   | true=>
     simp only [comp] at hc
     split at hc <;> try cases hc
     rename_i il vA
     split at hc <;> cases hc
     rename_i hm
     exact hdraw A hA hm.1 hm.2 vA h hf (Ext.refl A M w) hL
   | false=>
     simp only [comp] at hc
     obtain ⟨il,vA,rfl⟩:=aal.1 hc
     simp only [qp] at h
     refine wpIn_region_list (qU hA.opens _ _ _ _ _ vA _ hf h ?_)
     rintro a' w' ⟨M',L',H',aW,O',h1,h2,h3,h4⟩
     obtain ⟨O'',h5⟩:=h2.weaken (zW (lv.at_ id) aW)
     exact ⟨A,M',L',H',_,O'',.refl A,h1,h5,h3,hL.trans h4⟩
 | seq x y ihx ihy=>
   intro ir hc A M L w H env O a Q hA yH h hf hL
   simp only [comp] at hc
   split at hc <;> cases hc
   rename_i x' y' hx hy
   simp only [qp] at h
   refine wpIn_seq (Go.wpIn_mono (ihx _ hx hA yH h hf hL) ?_)
   rintro e a' w' ⟨A',M',L',H',aW,O',hl,h1,h2,h3,h4⟩
   cases e with
   | normal=>exact Go.wpIn_mono (ihy _ hy (hA.le hl) (yH.ext h3) h1 h2 h4) fun e a w hp=>hp.trans hl h3
   | _=>exact ⟨A',M',L',H',aW,O',hl,h1,h2,h3,h4⟩
 | cond x c d ihc ihd=>
   intro ir hc A M L w H env O a Q hA yH h hf hL
   simp only [comp] at hc
   split at hc <;> cases hc
   rename_i i c' d' hi E8 hd'
   simp only [qp] at h
   obtain ⟨q,hq,h⟩:=pO h
   have hr:=hf.eval hi
   rw [hq] at hr
   generalize hu:a.eval x=u at hr
   cases hr
   refine wpIn_cond_split hu (fun e=>ihc _ E8 hA yH (h.1 e) hf hL) (fun e=>ihd _ hd' hA yH (h.2 e) hf hL)
 | block id c ih=>
   intro ir hc A M L w H env O a Q hA yH h hf hL
   simp only [comp] at hc
   obtain ⟨c',E8,rfl⟩:=aal.1 hc
   simp only [qp] at h
   refine wpIn_block (Go.wpIn_mono (ih _ E8 hA yH h hf hL) ?_)
   rintro e a' w' ⟨A',M',L',H',aW,O',hl,h1,h2,h3,h4⟩
   cases e with
   | exit id'=>
     simp only [Exit.inBlock]
     simp only at h1
     split at h1
     ·rename_i e;rw [if_pos e];exact ⟨A',M',L',H',aW,O',hl,h1,h2,h3,h4⟩
     ·rename_i e;rw [if_neg e];exact ⟨A',M',L',H',aW,O',hl,h1,h2,h3,h4⟩
   | _=>exact ⟨A',M',L',H',aW,O',hl,h1,h2,h3,h4⟩
 | loop c ih=>
   intro ir hc A M L w H env O a Q hA yH h hf hL
   simp only [comp] at hc
   obtain ⟨c',E8,rfl⟩:=aal.1 hc
   simp only [qp] at h
   obtain ⟨ι,I,se,sh,μ,⟨i0,vY,V0⟩,hround⟩:=h
   obtain ⟨L',O',qo,hL'⟩:=hf.sle hA hL V0
   refine Bp (fun i a' w'=>I i∧∃ A' M' L' O',A'.Le A∧Fr A' n M' L' w' (sh i) (se i) O' a'∧Ext A M w M' w'∧L0 <+: L') μ ?_ i0 ⟨vY,A,M,L',O',.refl A,qo,Ext.refl A M w,hL'⟩
   rintro i a1 w1 ⟨hi,A1,M1,L1,O1,tO,E6,vZ,Rk⟩
   refine Go.wpIn_mono (ih _ E8 (hA.le tO) (yH.ext vZ) (hround i hi) E6 Rk) ?_
   rintro e a' w' ⟨A',M',L',H',aW,O',hl,h1,h2,h3,h4⟩
   cases e with
   | normal=>
     obtain ⟨j,hj,aM,hs⟩:=h1
     obtain ⟨L2,O2,uP,SS⟩:=h2.sle ((hA.le tO).le hl) h4 hs
     exact ⟨j,⟨hj,A',M',L2,O2,hl.trans tO,uP,vZ.trans (h3.le tO),SS⟩,aM⟩
   | _=>exact ⟨A',M',L',H',aW,O',hl.trans tO,h1,h2,vZ.trans (h3.le tO),h4⟩
 | rangeFunc f ps as bd=>
   intro ir hc A M L w H env O a Q hA yH h hf hL
   simp only [comp] at hc
   obtain ⟨i,hi,rfl⟩:=aal.1 hc
   exact Dd hA hi yH h hf hL
 | _=>
   intro ir hc A M L w H env O a Q hA yH h
   simp only [comp] at hc
   cases hc
   exact h.elim
end
end Go.aI
end
section
namespace Go.aI
open Go
section
variable {φ ψ:AV→Prop} (hm:∀ z,φ z→ψ z)
include hm
theorem tP {op:BinOp} {x y:AV} (h:dw op x y φ):dw op x y ψ:=by
 unfold dw at *
 split at h <;> (try exact h.elim)
 ·obtain ⟨h0,h⟩:=h
  refine ⟨h0,?_⟩
  split at h <;> first | exact hm _ h | exact ⟨h.1,hm _ h.2⟩ | exact h.elim
 ·split at h <;> first | exact hm _ h | exact ⟨h.1,hm _ h.2⟩ | exact h.elim
theorem o9 {op:BinOp} {x y:AV} (h:eX op x y φ):eX op x y ψ:=by
 unfold eX at *
 split at h <;> (try exact h.elim)
 obtain ⟨h0,h⟩:=h
 refine ⟨h0,?_⟩
 split at h <;> first | exact hm _ h | exact h.elim
theorem nN {neq:Bool} {x y:AV} (h:dA neq x y φ):dA neq x y ψ:=by
 unfold dA at *
 split at h <;> first | exact hm _ h | exact h.elim
theorem uS {kd:Nat} {neq:Bool} {x:AV} (h:dR kd neq x φ):dR kd neq x ψ:=by
 unfold dR at *
 split at h
 ·exact hm _ h
 ·split at h
  ·exact ⟨hm _ h.1,hm _ h.2⟩
  ·exact h.elim
theorem xg {op:UnOp} {x:AV} (h:CM op x φ):CM op x ψ:=by
 unfold CM at *
 split at h <;> first | exact hm _ h | exact h.elim
theorem kT {sz:Option Nat} {x:AV} {H:List aa} (h:a8 sz x H φ):a8 sz x H ψ:=by
 unfold a8 at *
 split at h <;> (try exact h.elim) <;> (split at h <;> (try exact h.elim)) <;> first | exact ⟨h.1,hm _ h.2⟩ | (split at h <;> exact ⟨h.1,hm _ h.2⟩)
theorem pc {off:Nat} {sz:Option Nat} {x:AV} (h:gV off sz x φ):gV off sz x ψ:=by
 unfold gV apart at *
 split at h <;> (try exact h.elim)
 split at h <;> first | exact ⟨h.1,hm _ h.2⟩ | exact ⟨h.1,h.2.1,hm _ h.2.2⟩
theorem kg {off:Nat} {sz:Option Nat} {x:AV} (h:au off sz x φ):au off sz x ψ:=by
 unfold au apart at *
 split at h <;> (try exact h.elim)
 ·exact hm _ h
 ·split at h <;> first | exact ⟨h.1,hm _ h.2⟩ | exact ⟨h.1,h.2.1,hm _ h.2.2⟩
theorem kh {esz:Nat} {x i:AV} (h:aG esz x i φ):aG esz x i ψ:=by
 unfold aG at *
 split at h <;> first | exact ⟨h.1,h.2.1,hm _ h.2.2⟩ | exact h.elim
theorem kU {x i:AV} (h:bX x i φ):bX x i ψ:=by
 unfold bX at *
 split at h <;> first | exact ⟨h.1,h.2.1,hm _ h.2.2⟩ | exact h.elim
theorem kV {n:Nat} {x i:AV} (h:cv n x i φ):cv n x i ψ:=by
 unfold cv at *
 split at h <;> first | exact ⟨h.1,h.2.1,h.2.2.1,hm _ h.2.2.2⟩ | exact h.elim
theorem tQ {x:AV} {H:List aa} (h:fR x H φ):fR x H ψ:=by
 unfold fR at *
 split at h <;> (try exact h.elim) <;> (try exact hm _ h)
 ·exact fun hl=>hm _ (h hl)
 ·split at h <;> first | exact hm _ h | exact h.elim
theorem mb {x:AV} {i:Nat} (h:bM x i φ):bM x i ψ:=by
 unfold bM at *
 split at h <;> first | exact ⟨h.1,hm _ h.2⟩ | exact h.elim
theorem kW {x:AV} (h:cw x φ):cw x ψ:=by
 unfold cw at *
 split at h <;> first | exact hm _ h | exact h.elim
theorem mc {k:IntKind} {x:AV} (h:dj k x φ):dj k x ψ:=by
 unfold dj at *
 split at h <;> first | exact hm _ h | exact h.elim
theorem xh {big:Bool} {x y:AV} (h:A0 big x y φ):A0 big x y ψ:=by
 unfold A0 at *
 split at h <;> first | exact hm _ h | exact h.elim
theorem qE {x:AV} (h:jM x φ):jM x ψ:=by
 unfold jM at *
 split at h <;> first | exact hm _ h | exact h.elim
theorem qF {own:Nat} {x:AV} (h:iV own x φ):iV own x ψ:=by
 unfold iV at *
 split at h <;> first | exact ⟨h.1,hm _ h.2⟩ | exact h.elim
theorem uT {x:AV} (h:nF x φ):nF x ψ:=by
 unfold nF at *
 split at h <;> first | exact hm _ h | exact ⟨_,h.choose_spec.1,hm _ h.choose_spec.2⟩ | (obtain ⟨l,h1,h2⟩:=h;exact ⟨l,h1,hm _ h2⟩) | exact ⟨h.1,hm _ h.2⟩ | exact h.elim
theorem uU {esz bytes:Nat} {n:AV} (h:lV esz bytes n φ):lV esz bytes n ψ:=by
 unfold lV at *
 split at h <;> first | exact ⟨h.1,h.2.1,hm _ h.2.2⟩ | exact h.elim
theorem nO {kd:Nat} {z m k:AV} {ok:Bool} {H:List aa} (h:dg kd z m k ok H φ):dg kd z m k ok H ψ:=by
 unfold dg at *
 split at h <;> (try exact h.elim) <;> first | exact hm _ h | exact ⟨h.1,hm _ h.2⟩ | (split at h <;> (try exact h.elim) <;> first | exact hm _ h | exact ⟨h.1,hm _ h.2⟩ | (split at h <;> (try exact h.elim) <;> first | exact hm _ h | exact ⟨h.1,hm _ h.2⟩))
end
theorem fo {x:Option AV} {d:Nat} {φ ψ:Nat→Prop} (hm:∀ k,φ k→ψ k) (h:eS x d φ):eS x d ψ:=by
 unfold eS at *
 split at h <;> first | exact hm _ h | exact ⟨h.1,hm _ h.2⟩ | exact h.elim
theorem uV {esz:Nat} {x:AV} {lo hi mx:Option AV} {φ ψ:AV→Prop} (hm:∀ z,φ z→ψ z) (h:gZ esz x lo hi mx φ):gZ esz x lo hi mx ψ:=by
 unfold gZ at *
 split at h <;> (try exact h.elim)
 refine fo (fun k h=>fo (fun l h=>⟨h.1,h.2.1,?_⟩) h) h
 obtain ⟨_,_,h⟩:=h
 split at h
 ·exact hm _ h
 ·exact ⟨h.1,fo (fun m h=>⟨h.1,h.2.1,hm _ h.2.2⟩) h.2⟩
theorem nP {esz:Nat} {x:AV} {lo hi mx:Option AV} {φ ψ:AV→Prop} (hm:∀ z,φ z→ψ z) (h:bH esz x lo hi mx φ):bH esz x lo hi mx ψ:=by
 unfold bH jF pM at *
 split at h
 ·split at h
  ·exact fo (fun k h=>fo (fun l h=>⟨h.1,h.2.1,hm _ h.2.2⟩) h) h
  ·exact ⟨h.1,fo (fun m h=>fo (fun k h=>fo (fun l h=>⟨h.1,h.2.1,h.2.2.1,hm _ h.2.2.2⟩) h) h) h.2⟩
 ·exact ⟨h.1,uV hm h.2⟩
theorem kX {x:AV} {lo hi:Option AV} {φ ψ:AV→Prop} (hm:∀ z,φ z→ψ z) (h:db x lo hi φ):db x lo hi ψ:=by
 unfold db at *
 split at h <;> (try exact h.elim)
 exact fo (fun k h=>fo (fun l h=>⟨h.1,h.2.1,hm _ h.2.2⟩) h) h
theorem nQ {φ ψ:List AV→Prop} (hm:∀ z,φ z→ψ z):∀ {ps:List (Nat×Nat×AV)} {zs:List AV},gb zs ps φ→gb zs ps ψ
 | [],zs,h=>hm _ h
 | (off,sz,x)::r,zs,h=>⟨h.1,h.2.1,h.2.2.1,nQ hm h.2.2.2⟩
theorem iY {esz:Nat} {φ ψ:List AV→Prop} (hm:∀ z,φ z→ψ z):∀ {ps:List (Nat×AV)} {zs:List AV},bi zs esz ps φ→bi zs esz ps ψ
 | [],zs,h=>hm _ h
 | (i,x)::r,zs,h=>⟨h.1,h.2.1,h.2.2.1,iY hm h.2.2.2⟩
def SU (τ:Nat→AV) (dst:Option Nat) (x:AV):Nat→AV:=match dst with | some d=>gR τ d x | none=>τ
theorem lI (env:Env) (dst:Option Nat) (x:AV):get (put dst x env)=SU (get env) dst x:=by cases dst <;> rfl
theorem pd {lo:Option IX} {env:Env} {ρ:IX→AV} (h:∀ i∈lo.toList,aE env i=ρ i):lo.map ρ=jO env lo:=by
 cases lo with
 | none=>rfl
 | some i=>simp [jO,h i (by simp)]
theorem pe {is:List IX} {env:Env} {ρ:IX→AV} (h:∀ i∈is,aE env i=ρ i) (g:AV→AV):(is.map fun x=>g (aE env x))=is.map fun x=>g (ρ x):=by
 apply ab2
 intro i hi
 rw [h i hi]
theorem pf (env:Env):∀ (is:List IX) (j:Nat),aQ env none j is=is.map fun x=>(aE env x).ab
 | [],_=>rfl
 | .t s::r,j=>by simp [aQ,pf env r,aE]
 | .c v::r,j=>by simp [aQ,pf env r,aE]
theorem De {P:Px} {o:cu} {dst:Option Nat} {ρ:IX→AV} {env:Env} {H:List aa} {x:AV} (h:dT P o ρ H x) (hρ:∀ i∈o.all,aE env i=ρ i) :
 bE P o dst env H fun e h=>h=H∧get e=get (put dst x env):=by
 have key:∀ z,z=x→(H=H∧get (put dst z env)=get (put dst x env)):=fun z e=>⟨rfl,e ▸ rfl⟩
 cases o with
 | set i take=>
   cases take with
   | true=>exact h.elim
   | false=>
     simp only [dT,cu.all,aay,forall_eq] at h hρ
     rw [← hρ] at h
     unfold bE
     cases dst with
     | none=>exact ⟨rfl,rfl⟩
     | some d=>
       subst h
       refine ⟨rfl,?_⟩
       cases i <;> rfl
 | pick c a b=>
   simp only [dT,cu.all,aak,abA,or_false,forall_eq_or_imp,forall_eq] at h hρ
   obtain ⟨h1,h2,h3⟩:=hρ
   rw [← h1,← h2,← h3] at h
   obtain ⟨q,hq,h⟩:=pO h
   show fH (aE env c) _
   rw [hq]
   exact ⟨fun e=>key _ (h.1 e),fun e=>key _ (h.2 e)⟩
 | bin op i j=>
   simp only [dT,cu.all,aak,abA,or_false,forall_eq_or_imp,forall_eq] at h hρ
   obtain ⟨h1,h2⟩:=hρ
   rw [← h1,← h2] at h
   exact tP key h
 | shift op i j=>
   simp only [dT,cu.all,aak,abA,or_false,forall_eq_or_imp,forall_eq] at h hρ
   obtain ⟨h1,h2⟩:=hρ
   rw [← h1,← h2] at h
   exact o9 key h
 | nu neq i j=>
   simp only [dT,cu.all,aak,abA,or_false,forall_eq_or_imp,forall_eq] at h hρ
   obtain ⟨h1,h2⟩:=hρ
   rw [← h1,← h2] at h
   exact nN key h
 | mx big i j=>
   simp only [dT,cu.all,aak,abA,or_false,forall_eq_or_imp,forall_eq] at h hρ
   obtain ⟨h1,h2⟩:=hρ
   rw [← h1,← h2] at h
   exact xh key h
 | indexAddr esz i j=>
   simp only [dT,cu.all,aak,abA,or_false,forall_eq_or_imp,forall_eq] at h hρ
   obtain ⟨h1,h2⟩:=hρ
   rw [← h1,← h2] at h
   exact ⟨h.1,kh key h.2⟩
 | ff i j=>
   simp only [dT,cu.all,aak,abA,or_false,forall_eq_or_imp,forall_eq] at h hρ
   obtain ⟨h1,h2⟩:=hρ
   rw [← h1,← h2] at h
   exact kU key h
 | iR n i j=>
   simp only [dT,cu.all,aak,abA,or_false,forall_eq_or_imp,forall_eq] at h hρ
   obtain ⟨h1,h2⟩:=hρ
   rw [← h1,← h2] at h
   exact kV key h
 | lookup kd z i j ok=>
   simp only [dT,cu.all,aak,abA,or_false,forall_eq_or_imp,forall_eq] at h hρ
   obtain ⟨h1,h2⟩:=hρ
   rw [← h1,← h2] at h
   exact nO key h
 | ou kd neq i=>
   simp only [dT,cu.all,aay,forall_eq] at h hρ
   rw [← hρ] at h
   exact uS key h
 | un op i=>
   simp only [dT,cu.all,aay,forall_eq] at h hρ
   rw [← hρ] at h
   exact xg key h
 | qQ i=>
   simp only [dT,cu.all,aay,forall_eq] at h hρ
   rw [← hρ] at h
   exact ⟨h.1,key _ h.2⟩
 | load sz i=>
   simp only [dT,cu.all,aay,forall_eq] at h hρ
   rw [← hρ] at h
   exact kT key h
 | nilCheck i=>
   simp only [dT,cu.all,aay,forall_eq] at h hρ
   rw [← hρ] at h
   exact kW key h
 | fieldAddr off sz i=>
   simp only [dT,cu.all,aay,forall_eq] at h hρ
   rw [← hρ] at h
   exact kg key h
 | field off sz i=>
   simp only [dT,cu.all,aay,forall_eq] at h hρ
   rw [← hρ] at h
   exact pc key h
 | len kd i=>
   simp only [dT,cu.all,aay,forall_eq] at h hρ
   rw [← hρ] at h
   exact ⟨h.1,tQ key h.2⟩
 | extract i k=>
   simp only [dT,cu.all,aay,forall_eq] at h hρ
   rw [← hρ] at h
   exact mb key h
 | jE k i=>
   simp only [dT,cu.all,aay,forall_eq] at h hρ
   rw [← hρ] at h
   exact mc key h
 | nv i=>
   simp only [dT,cu.all,aay,forall_eq] at h hρ
   rw [← hρ] at h
   exact qE key h
 | bytesOf i=>
   simp only [dT,cu.all,aay,forall_eq] at h hρ
   rw [← hρ] at h
   exact qF key h
 | wI esz bytes i=>
   simp only [dT,cu.all,aay,forall_eq] at h hρ
   rw [← hρ] at h
   exact uU key h
 | strOf i=>
   simp only [dT,cu.all,aay,forall_eq] at h hρ
   rw [← hρ] at h
   exact uT key h
 | build z ps=>
   simp only [dT,cu.all] at h hρ
   have:(ps.map fun q=>(q.1,q.2.1,aE env q.2.2))=ps.map fun q=>(q.1,q.2.1,ρ q.2.2):=
    ab2 fun q hq=>by rw [hρ _ (aaw.2 ⟨q,hq,rfl⟩)]
   show cr z.cells (ps.map fun q=>(q.1,q.2.1,aE env q.2.2)) (fun v=>H=H∧get (put dst v env)=get (put dst x env))
   rw [this]
   exact nQ (fun v h=>key _ h) h
 | buildSlice own esz z len ps=>
   simp only [dT,cu.all] at h hρ
   have:(ps.map fun q=>(q.1,aE env q.2))=ps.map fun q=>(q.1,ρ q.2):=
    ab2 fun q hq=>by rw [hρ _ (aaw.2 ⟨q,hq,rfl⟩)]
   show bi _ _ (ps.map fun q=>(q.1,aE env q.2)) _
   rw [this]
   exact iY (fun v h=>key (.al own v) h) h
 | slice esz i lo hi mx=>
   simp only [dT,cu.all,aak,abF,forall_eq_or_imp] at h hρ
   obtain ⟨h1,h2⟩:=hρ
   rw [← h1,pd (fun i hi=>h2 i (.inl (.inl hi))),pd (fun i hi=>h2 i (.inl (.inr hi))),pd (fun i hi=>h2 i (.inr hi))] at h
   exact nP key h
 | iS i lo hi=>
   simp only [dT,cu.all,aak,abF,forall_eq_or_imp] at h hρ
   obtain ⟨h1,h2⟩:=hρ
   rw [← h1,pd (fun i hi=>h2 i (.inl hi)),pd (fun i hi=>h2 i (.inr hi))] at h
   exact kX key h
 | fn f first cap=>
   simp only [dT,cu.all,abF] at h hρ
   refine key _ ?_
   rw [pe (fun i hi=>hρ i (.inl hi)) AV.ab,pe (fun i hi=>hρ i (.inr hi)) AV.ab]
   exact h
 | call f args pass=>
   cases pass with
   | some _=>exact h.elim
   | none=>
     simp only [dT,cu.all,aak,forall_eq_or_imp] at h hρ
     obtain ⟨h1,h2⟩:=hρ
     rw [← h1] at h
     split at h <;> try exact h.elim
     rename_i g first cap hg
     show rY P (aE env f) args none env H (fun r aW H'=>H'=H∧get (put dst r aW)=get (put dst x env))
     rw [hg]
     obtain ⟨bV,hl,hcall⟩:=h
     refine ⟨bV,?_,eD.of <| hcall.mono ?_⟩
     ·rw [pf,pe h2 AV.ab];exact hl
     ·rintro r H' ⟨hr,rfl⟩
      exact key r hr
 | _=>exact h.elim
end Go.aI
end
section
namespace Go.aI
open Go
theorem Df {m:Nat} {p x:AV} {H:List aa} {K K':List aa→Prop} (hm:∀ H',K H'→K' H') (h:kQ m p x H K):kQ m p x H K':=by
 unfold kQ at *
 split at h <;> (try exact h.elim)
 split at h <;> (try exact h.elim)
 exact ⟨h.1,h.2.1,h.2.2.1,h.2.2.2.1,h.2.2.2.2.1,hm _ h.2.2.2.2.2⟩
theorem yZ {p x:AV} {H:List aa} {K K':List aa→Prop} (hm:∀ H',K H'→K' H') (h:fK p x H K):fK p x H K':=by
 unfold fK at *
 split at h <;> (try exact h.elim)
 split at h <;> (try exact h.elim)
 exact ⟨h.1,h.2.1,h.2.2.1,hm _ h.2.2.2⟩
theorem Bq {esz bytes:Nat} {s x:AV} {φ ψ:List AV→Prop} (hm:∀ z,φ z→ψ z) (h:bC esz bytes s x φ):bC esz bytes s x ψ:=by
 unfold bC at *
 split at h <;> (try exact h.elim)
 exact ⟨h.1,h.2.1,hm _ h.2.2⟩
theorem y7 {esz bytes:Nat} {z s x:AV} {H:List aa} {K K':AV→List aa→Prop} (hm:∀ v H',K v H'→K' v H') (h:b9 esz bytes z s x H K):b9 esz bytes z s x H K':=by
 unfold b9 at *
 cases hr:dK x with
 | none=>
   rw [hr] at h
   simp only at h ⊢
   split at h <;> try exact h.elim
   rename_i id off len cap n ys wU
   cases hi:H[id]? with
   | none=>rw [hi] at h;exact h.elim
   | some ob=>
     rw [hi] at h
     cases ob with
     | cells es=>
       obtain ⟨a,b,c,d,e,f⟩:=h
       exact ⟨a,b,c,d,e,hm _ _ f⟩
     | _=>exact h.elim
 | some ys=>
   rw [hr] at h
   obtain ⟨h1,h⟩:=h
   refine ⟨h1,?_⟩
   cases s with
   | ag=>
     obtain ⟨a,b,c⟩:=h
     exact ⟨a,fun e=>hm _ _ (b e),fun e cap h1 h2=>⟨(c e cap h1 h2).1,hm _ _ (c e cap h1 h2).2⟩⟩
   | oP=>
     obtain ⟨a,b,c⟩:=h
     exact ⟨a,fun e=>hm _ _ (b e),fun e cap h1 h2=>⟨(c e cap h1 h2).1,hm _ _ (c e cap h1 h2).2⟩⟩
   | aZ id off len cap=>
     simp only at h ⊢
     cases hi:H[id]? with
     | none=>rw [hi] at h;exact h.elim
     | some ob=>
       rw [hi] at h
       cases ob with
       | cells es=>
         obtain ⟨a,b,c,d,f⟩:=h
         exact ⟨a,b,c,fun e=>⟨(d e).1,hm _ _ (d e).2⟩,fun e c8 h1 h2=>⟨(f e c8 h1 h2).1,hm _ _ (f e c8 h1 h2).2⟩⟩
       | _=>exact h.elim
   | _=>exact h.elim
theorem y8 {lm:Nat→Nat} {esz bytes:Nat} {z s x:AV} {H:List aa} {K K':AV→List aa→Prop} (hm:∀ v H',K v H'→K' v H') (h:jN lm esz bytes z s x H K):jN lm esz bytes z s x H K':=by
 unfold jN at *
 cases hr:dK x with
 | none=>
   rw [hr] at h
   simp only at h ⊢
   split at h <;> try exact h.elim
   rename_i id off len cap n ys wU
   cases hi:H[id]? with
   | none=>rw [hi] at h;exact h.elim
   | some ob=>
     rw [hi] at h
     cases ob with
     | cells es=>
       obtain ⟨a,b,c,d,e,f⟩:=h
       exact ⟨a,b,c,d,e,hm _ _ f⟩
     | _=>exact h.elim
 | some ys=>
   rw [hr] at h
   obtain ⟨h1,h⟩:=h
   refine ⟨h1,?_⟩
   cases s with
   | ag=>
     obtain ⟨a,b,c⟩:=h
     exact ⟨a,fun e=>hm _ _ (b e),fun e cap h1 h2=>⟨(c e cap h1 h2).1,hm _ _ (c e cap h1 h2).2⟩⟩
   | oP=>
     obtain ⟨a,b,c⟩:=h
     exact ⟨a,fun e=>hm _ _ (b e),fun e cap h1 h2=>⟨(c e cap h1 h2).1,hm _ _ (c e cap h1 h2).2⟩⟩
   | aZ id off len cap=>
     simp only at h ⊢
     cases hi:H[id]? with
     | none=>rw [hi] at h;exact h.elim
     | some ob=>
       rw [hi] at h
       cases ob with
       | cells es=>
         obtain ⟨a,b,c,d,f⟩:=h
         exact ⟨a,b,c,fun e=>⟨(d e).1,hm _ _ (d e).2⟩,fun e c8 h1 h2=>⟨(f e c8 h1 h2).1,hm _ _ (f e c8 h1 h2).2⟩⟩
       | _=>exact h.elim
   | _=>exact h.elim
theorem y9 {lo esz bytes:Nat} {z s x:AV} {H:List aa} {K K':AV→List aa→Prop} (hm:∀ v H',K v H'→K' v H') (h:fL lo esz bytes z s x H K):fL lo esz bytes z s x H K':=⟨h.1,y8 hm h.2⟩
theorem Br {esz:Nat} {z x:AV} {H:List aa} {K K':List aa→Prop} (hm:∀ H',K H'→K' H') (h:jG esz z x H K):jG esz z x H K':=by
 unfold jG at *
 split at h <;> (try exact h.elim)
 split at h <;> (try exact h.elim)
 exact ⟨h.1,h.2.1,h.2.2.1,hm _ h.2.2.2⟩
theorem Dg {esz bytes:Nat} {z n:AV} {H:List aa} {K K':AV→List aa→Prop} (hm:∀ v H',K v H'→K' v H') (h:gY esz bytes z n H K):gY esz bytes z n H K':=by
 unfold gY at *
 split at h <;> (try exact h.elim)
 exact ⟨h.1,h.2.1,h.2.2.1,hm _ _ h.2.2.2⟩
theorem Bs {kd:Nat} {m k x:AV} {H:List aa} {K K':List aa→Prop} (hm:∀ H',K H'→K' H') (h:iW kd m k x H K):iW kd m k x H K':=by
 unfold iW at *
 split at h <;> (try exact h.elim)
 split at h <;> (try exact h.elim)
 refine ⟨h.1,h.2.1,h.2.2.1,?_⟩
 obtain ⟨_,_,_,h⟩:=h
 split at h
 ·exact hm _ h
 ·exact ⟨h.1,hm _ h.2⟩
 ·exact h.elim
theorem FM {esz:Nat} {d s:AV} {H:List aa} {K K':AV→List aa→Prop} (hm:∀ v H',K v H'→K' v H') (h:mC esz d s H K):mC esz d s H K':=by
 unfold mC at *
 split at h <;> (try exact h.elim)
 split at h <;> (try exact h.elim)
 exact ⟨h.1,h.2.1,h.2.2.1,hm _ _ h.2.2.2⟩
theorem lJ {esz:Nat} {x:AV} {H:List aa} {K K':AV→List aa→Prop} (hm:∀ v H',K v H'→K' v H') (h:eK esz x H K):eK esz x H K':=by
 unfold eK at *
 split at h
 ·split at h <;> (try exact h.elim)
  exact ⟨h.1,h.2.1,h.2.2.1,h.2.2.2.1,hm _ _ h.2.2.2.2⟩
 ·exact h.elim
 ·exact hm _ _ h
 ·exact hm _ _ h
theorem uW {esz:Nat}:∀ {xs:List AV} {H:List aa} {K K':List AV→List aa→Prop} (hm:∀ v H',K v H'→K' v H') (h:nI esz xs H K),nI esz xs H K'
 | [],H,K,K',hm,h=>hm _ _ h
 | x::r,H,K,K',hm,h=>lJ (fun v H' hk=>uW (fun vs H'' h2=>hm _ _ h2) hk) h
theorem Jf {e id c:Nat} {H:List aa} {K K':List aa→Prop} (hm:∀ H',K H'→K' H') (h:Bg e id c H K):Bg e id c H K':=by
 unfold Bg at *
 split at h <;> (try exact h.elim)
 split at h <;> (try exact h.elim)
 ·exact lJ (fun v H' hk=>⟨hk.1,hk.2.1,hm _ hk.2.2⟩) h
 ·exact hm _ h
theorem xi {esz:Nat} {x:AV} {H:List aa} {K K':AV→List aa→Prop} (hm:∀ v H',K v H'→K' v H') (h:jl esz x H K):jl esz x H K':=by
 unfold jl at *
 split at h
 ·exact uW (fun v H' hk=>hm _ _ hk) h
 ·split at h
  ·rename_i hc;rw [if_pos hc];exact Jf (hm _) h
  ·rename_i hc;rw [if_neg hc];exact lJ hm h
 ·exact lJ hm h
theorem Bt {l m:Nat} {p x:AV} {H:List aa} {K K':List aa→Prop} (hm:∀ H',K H'→K' H') (h:iU l m p x H K):iU l m p x H K':=by
 unfold iU at *
 split at h <;> (try exact h.elim)
 split at h <;> (try exact h.elim)
 exact ⟨h.1,h.2.1,h.2.2.1,h.2.2.2.1,h.2.2.2.2.1,h.2.2.2.2.2.1,hm _ h.2.2.2.2.2.2⟩
theorem pg {env1 dq:Env} {pass:Option Nat}:∀ {is:List IX} {j:Nat},(∀ i∈is,aE dq i=aE env1 i)→aQ dq pass j is=aQ env1 pass j is
 | [],_,_=>rfl
 | .t s::r,j,h=>by
   have h1:get dq s=get env1 s:=h (.t s) (by simp)
   simp only [aQ,h1,pg (fun i hi=>h i (aaA _ hi))]
 | .c v::r,j,h=>by
   simp only [aQ,pg (fun i hi=>h i (aaA _ hi))]
theorem iB {lo:Option IX} {env1 dq:Env} (h:∀ i∈lo.toList,aE dq i=aE env1 i):jO dq lo=jO env1 lo:=by
 cases lo with
 | none=>rfl
 | some i=>simp [jO,h i (by simp)]
theorem pQ {P:Px} {o:cu} {dst:Option Nat} {env1 dq:Env} {H:List aa} {K1 K2:Env→List aa→Prop} (hl:∀ i∈o.all,aE dq i=aE env1 i) (h:bE P o dst env1 H K1)
 (hK:∀ (mods:List (Nat×AV)) H',(∀ p∈mods,dst=some p.1∨p.1∈o.kill)→(o.SO=false→H'=H)→(o.zV=true→∃ e,H'=H++e)→K1 (mods++env1) H'→K2 (mods++dq) H'):bE P o dst dq H K2:=by
 have kput:∀ z H',(o.SO=false→H'=H)→(o.zV=true→∃ e,H'=H++e)→K1 (put dst z env1) H'→K2 (put dst z dq) H':=by
  intro z H' hc hg
  cases hd:dst with
  | none=>exact hK [] H' (by simp) hc hg
  | some d=>exact hK [(d,z)] H' (by simp [hd]) hc hg
 have kput0:∀ z,K1 (put dst z env1) H→K2 (put dst z dq) H:=fun z=>kput z H (fun _=>rfl) (fun _=>⟨[],by simp⟩)
 have kenv:∀ H',(o.SO=false→H'=H)→(o.zV=true→∃ e,H'=H++e)→K1 env1 H'→K2 dq H':=fun H' hc hg=>hK [] H' (by simp) hc hg
 cases o with
 | set i take=>
   simp only [cu.all,aay,forall_eq] at hl
   simp only [bE] at h ⊢
   cases dst with
   | none=>exact kenv H (fun _=>rfl) (fun _=>⟨[],by simp⟩) h
   | some d=>
     simp only at h ⊢
     cases i with
     | c v=>cases take <;> exact kput0 _ h
     | t s=>
       have hs:get dq s=get env1 s:=hl
       cases take with
       | false=>
         have e1:wK env1 d (.t s) false=put (some d) (get env1 s).ab env1:=rfl
         have e2:wK dq d (.t s) false=put (some d) (get env1 s).ab dq:=by simp only [wK,put,aE,hs]
         rw [e2];rw [e1] at h
         exact kput0 _ h
       | true=>
         have e1:wK env1 d (.t s) true=[(d,get env1 s),(s,(get env1 s).ab)]++env1:=rfl
         have e2:wK dq d (.t s) true=[(d,get env1 s),(s,(get env1 s).ab)]++dq:=by simp only [wK,hs];rfl
         rw [e2];rw [e1] at h
         exact hK _ H (by simp [cu.kill]) (fun _=>rfl) (fun _=>⟨[],by simp⟩) h
 | pick c a b=>
   simp only [cu.all,aak,abA,or_false,forall_eq_or_imp,forall_eq] at hl
   obtain ⟨h1,h2,h3⟩:=hl
   simp only [bE] at h ⊢
   rw [h1,h2,h3]
   obtain ⟨q,hq,h⟩:=pO h
   rw [hq]
   exact ⟨fun e=>kput0 _ (h.1 e),fun e=>kput0 _ (h.2 e)⟩
 | bin op i j=>
   simp only [cu.all,aak,abA,or_false,forall_eq_or_imp,forall_eq] at hl
   simp only [bE] at h ⊢
   rw [hl.1,hl.2]
   exact tP kput0 h
 | shift op i j=>
   simp only [cu.all,aak,abA,or_false,forall_eq_or_imp,forall_eq] at hl
   simp only [bE] at h ⊢
   rw [hl.1,hl.2]
   exact o9 kput0 h
 | nu neq i j=>
   simp only [cu.all,aak,abA,or_false,forall_eq_or_imp,forall_eq] at hl
   simp only [bE] at h ⊢
   rw [hl.1,hl.2]
   exact nN kput0 h
 | indexAddr esz i j=>
   simp only [cu.all,aak,abA,or_false,forall_eq_or_imp,forall_eq] at hl
   simp only [bE] at h ⊢
   rw [hl.1,hl.2]
   exact ⟨h.1,kh kput0 h.2⟩
 | ff i j=>
   simp only [cu.all,aak,abA,or_false,forall_eq_or_imp,forall_eq] at hl
   simp only [bE] at h ⊢
   rw [hl.1,hl.2]
   exact kU kput0 h
 | iR n i j=>
   simp only [cu.all,aak,abA,or_false,forall_eq_or_imp,forall_eq] at hl
   simp only [bE] at h ⊢
   rw [hl.1,hl.2]
   exact kV kput0 h
 | lookup kd z i j ok=>
   simp only [cu.all,aak,abA,or_false,forall_eq_or_imp,forall_eq] at hl
   simp only [bE] at h ⊢
   rw [hl.1,hl.2]
   exact nO kput0 h
 | mx big i j=>
   simp only [cu.all,aak,abA,or_false,forall_eq_or_imp,forall_eq] at hl
   simp only [bE] at h ⊢
   rw [hl.1,hl.2]
   exact xh kput0 h
 | store m i j=>
   simp only [cu.all,aak,abA,or_false,forall_eq_or_imp,forall_eq] at hl
   simp only [bE] at h ⊢
   rw [hl.1,hl.2]
   exact Df (fun H' hk=>kenv H' (fun e=>by cases e) (fun e=>by cases e) hk) h
 | tB m i j=>
   simp only [cu.all,aak,abA,or_false,forall_eq_or_imp,forall_eq] at hl
   simp only [bE] at h ⊢
   rw [hl.1,hl.2]
   split at h <;> (try exact h.elim)
   exact Bt (fun H' hk=>kenv H' (fun e=>by cases e) (fun e=>by cases e) hk) h
 | append esz bytes i j=>
   simp only [cu.all,aak,abA,or_false,forall_eq_or_imp,forall_eq] at hl
   simp only [bE] at h ⊢
   rw [hl.1,hl.2]
   refine Bq (fun zs hk=>?_) h
   cases i with
   | c v=>exact kput0 _ hk
   | t s=>
     have hs:get dq s=get env1 s:=hl.1
     have e:∀ env:Env,get env s=get env1 s→put dst (.al esz zs) (dB env (IX.t s).slot)=(put dst (.al esz zs) [(s,(get env1 s).ab)])++env:=by
      intro env he
      cases dst <;> simp [put,dB,IX.slot,he]
     rw [e env1 rfl] at hk
     rw [e dq hs]
     refine hK _ H ?_ (fun _=>rfl) (fun _=>⟨[],by simp⟩) hk
     intro p hp
     cases dst with
     | none=>simp [put] at hp;subst hp;right;simp [cu.kill]
     | some d=>
       simp [put] at hp
       rcases hp with rfl | rfl
       ·left;rfl
       ·right;simp [cu.kill]
 | copy esz i j=>
   simp only [cu.all,aak,abA,or_false,forall_eq_or_imp,forall_eq] at hl
   simp only [bE] at h ⊢
   rw [hl.1,hl.2]
   exact FM (fun v H' hk=>kput v H' (fun e=>by cases e) (fun e=>by cases e) hk) h
 | oS kd i j k=>
   simp only [cu.all,aak,abA,or_false,forall_eq_or_imp,forall_eq] at hl
   simp only [bE] at h ⊢
   rw [hl.1,hl.2.1,hl.2.2]
   exact Bs (fun H' hk=>kenv H' (fun e=>by cases e) (fun e=>by cases e) hk) h
 | iQ i s=>
   simp only [cu.all,aak,abA,or_false,forall_eq_or_imp,forall_eq] at hl
   simp only [bE] at h ⊢
   have hs:get dq s=get env1 s:=hl.2
   rw [hl.1,hs]
   exact yZ (fun H' hk=>hK [(s,(get env1 s).ab)] H' (by simp [cu.kill]) (fun e=>by cases e) (fun e=>by cases e) hk) h
 | ou kd neq i=>
   simp only [cu.all,aay,forall_eq] at hl
   simp only [bE] at h ⊢
   rw [hl]
   exact uS kput0 h
 | un op i=>
   simp only [cu.all,aay,forall_eq] at hl
   simp only [bE] at h ⊢
   rw [hl]
   exact xg kput0 h
 | box i=>
   simp only [cu.all,aay,forall_eq] at hl
   simp only [bE] at h ⊢
   rw [hl]
   exact ⟨h.1,h.2.1,kput _ _ (fun e=>by cases e) (fun _=>⟨_,rfl⟩) h.2.2⟩
 | qQ i=>
   simp only [cu.all,aay,forall_eq] at hl
   simp only [bE] at h ⊢
   rw [hl]
   exact ⟨h.1,kput0 _ h.2⟩
 | wG m i=>
   simp only [cu.all,aay,forall_eq] at hl
   simp only [bE] at h ⊢
   rw [hl]
   exact ⟨h.1,h.2.1,h.2.2.1,kput0 _ h.2.2.2⟩
 | alloc z=>
   simp only [bE] at h ⊢
   exact ⟨h.1,kput _ _ (fun e=>by cases e) (fun _=>⟨_,rfl⟩) h.2⟩
 | rT=>
   simp only [bE] at h ⊢
   exact kput _ _ (fun e=>by cases e) (fun _=>⟨_,rfl⟩) h
 | load sz i=>
   simp only [cu.all,aay,forall_eq] at hl
   simp only [bE] at h ⊢
   rw [hl]
   exact kT kput0 h
 | zF sz esz i=>
   simp only [cu.all,aay,forall_eq] at hl
   simp only [bE] at h ⊢
   rw [hl]
   exact kT (fun z hz=>xi (fun v H' hk=>kput v H' (fun e=>by cases e) (fun e=>by cases e) hk) hz) h
 | gv i=>
   simp only [cu.all,aay,forall_eq] at hl
   simp only [bE] at h ⊢
   rw [hl]
   cases dst with
   | none=>exact h.elim
   | some d=>
     cases hv:aE env1 i with
     | ptr id off=>
       rw [hv] at h
       simp only at h ⊢
       cases bF:H[id]? with
       | none=>rw [bF] at h;exact h.elim
       | some ob=>
         rw [bF] at h
         cases ob with
         | cells es=>exact ⟨h.1,hK [(d,es.getD off .any)] _ (by simp) (fun e=>by cases e) (fun e=>by cases e) h.2⟩
         | _=>exact h.elim
     | _=>rw [hv] at h;exact h.elim
 | Ff esz i=>
   simp only [cu.all,aay,forall_eq] at hl
   simp only [bE] at h ⊢
   rw [hl]
   exact xi (fun v H' hk=>kput v H' (fun e=>by cases e) (fun e=>by cases e) hk) h
 | nilCheck i=>
   simp only [cu.all,aay,forall_eq] at hl
   simp only [bE] at h ⊢
   rw [hl]
   exact kW kput0 h
 | fieldAddr off sz i=>
   simp only [cu.all,aay,forall_eq] at hl
   simp only [bE] at h ⊢
   rw [hl]
   exact kg kput0 h
 | field off sz i=>
   simp only [cu.all,aay,forall_eq] at hl
   simp only [bE] at h ⊢
   rw [hl]
   exact pc kput0 h
 | len kd i=>
   simp only [cu.all,aay,forall_eq] at hl
   simp only [bE] at h ⊢
   rw [hl]
   exact ⟨h.1,tQ kput0 h.2⟩
 | zG esz bytes z i=>
   simp only [cu.all,aay,forall_eq] at hl
   simp only [bE] at h ⊢
   rw [hl]
   exact Dg (fun v H' hk=>kput v H' (fun e=>by cases e) (fun e=>by cases e) hk) h
 | wI esz bytes i=>
   simp only [cu.all,aay,forall_eq] at hl
   simp only [bE] at h ⊢
   rw [hl]
   exact uU kput0 h
 | extract i k=>
   simp only [cu.all,aay,forall_eq] at hl
   simp only [bE] at h ⊢
   rw [hl]
   exact mb kput0 h
 | jE k i=>
   simp only [cu.all,aay,forall_eq] at hl
   simp only [bE] at h ⊢
   rw [hl]
   exact mc kput0 h
 | nv i=>
   simp only [cu.all,aay,forall_eq] at hl
   simp only [bE] at h ⊢
   rw [hl]
   exact qE kput0 h
 | bytesOf i=>
   simp only [cu.all,aay,forall_eq] at hl
   simp only [bE] at h ⊢
   rw [hl]
   exact qF kput0 h
 | strOf i=>
   simp only [cu.all,aay,forall_eq] at hl
   simp only [bE] at h ⊢
   rw [hl]
   exact uT kput0 h
 | build z ps=>
   simp only [cu.all] at hl
   simp only [bE] at h ⊢
   have:(ps.map fun q=>(q.1,q.2.1,aE dq q.2.2))=ps.map fun q=>(q.1,q.2.1,aE env1 q.2.2):=
    ab2 fun q hq=>by rw [hl _ (aaw.2 ⟨q,hq,rfl⟩)]
   rw [this]
   exact nQ (fun v hk=>kput0 _ hk) h
 | IP esz z len ps=>
   simp only [cu.all] at hl
   simp only [bE] at h ⊢
   have:(ps.map fun q=>(q.1,aE dq q.2))=ps.map fun q=>(q.1,aE env1 q.2):=
    ab2 fun q hq=>by rw [hl _ (aaw.2 ⟨q,hq,rfl⟩)]
   rw [this]
   exact iY (fun v hk=>⟨hk.1,kput _ _ (fun e=>by cases e) (fun e=>by cases e) hk.2⟩) h
 | nw esz bytes z i j=>
   simp only [cu.all,aak,abA,or_false,forall_eq_or_imp,forall_eq] at hl
   simp only [bE] at h ⊢
   rw [hl.1,hl.2]
   exact y7 (fun v H' hk=>kput v H' (fun e=>by cases e) (fun e=>by cases e) hk) h
 | nz esz bytes z i j=>
   simp only [cu.all,aak,abA,or_false,forall_eq_or_imp,forall_eq] at hl
   simp only [bE] at h ⊢
   rw [hl.1,hl.2]
   split at h <;> (try exact h.elim)
   exact y9 (fun v H' hk=>kput v H' (fun e=>by cases e) (fun e=>by cases e) hk) h
 | tC esz z i=>
   simp only [cu.all,aay,forall_eq] at hl
   simp only [bE] at h ⊢
   rw [hl]
   exact Br (fun H' hk=>kput _ H' (fun e=>by cases e) (fun e=>by cases e) hk) h
 | buildSlice own esz z len ps=>
   simp only [cu.all] at hl
   simp only [bE] at h ⊢
   have:(ps.map fun q=>(q.1,aE dq q.2))=ps.map fun q=>(q.1,aE env1 q.2):=
    ab2 fun q hq=>by rw [hl _ (aaw.2 ⟨q,hq,rfl⟩)]
   rw [this]
   exact iY (fun v hk=>kput0 _ hk) h
 | slice esz i lo hi m=>
   simp only [cu.all,aak,abF,forall_eq_or_imp] at hl
   obtain ⟨h1,h2⟩:=hl
   simp only [bE] at h ⊢
   rw [h1,iB (fun i hi=>h2 i (.inl (.inl hi))),iB (fun i hi=>h2 i (.inl (.inr hi))),iB (fun i hi=>h2 i (.inr hi))]
   exact nP kput0 h
 | wH esz i lo hi m=>
   simp only [cu.all,aak,abF,forall_eq_or_imp] at hl
   obtain ⟨h1,h2⟩:=hl
   simp only [bE] at h ⊢
   rw [h1,iB (fun i hi=>h2 i (.inl (.inl hi))),iB (fun i hi=>h2 i (.inl (.inr hi))),iB (fun i hi=>h2 i (.inr hi))]
   exact ⟨h.1,uV (fun z hz=>⟨hz.1,kput0 _ hz.2⟩) h.2⟩
 | iS i lo hi=>
   simp only [cu.all,aak,abF,forall_eq_or_imp] at hl
   obtain ⟨h1,h2⟩:=hl
   simp only [bE] at h ⊢
   rw [h1,iB (fun i hi=>h2 i (.inl hi)),iB (fun i hi=>h2 i (.inr hi))]
   exact kX kput0 h
 | fn f first cap=>
   simp only [cu.all,abF] at hl
   simp only [bE] at h ⊢
   rw [pe (fun i hi=>hl i (.inl hi)) AV.ab,pe (fun i hi=>hl i (.inr hi)) AV.ab]
   exact kput0 _ h
 | call f args pass=>
   simp only [cu.all,aak,forall_eq_or_imp] at hl
   obtain ⟨h1,h2⟩:=hl
   simp only [bE,rY] at h ⊢
   rw [h1]
   split at h <;> try exact h.elim
   all_goals
   obtain ⟨bV,hle,hcall⟩:=h
   refine ⟨bV,?_,hcall.mono fun r H' hk=>?_⟩
   ·rw [pg h2];exact hle
   ·cases hp:bn args pass with
    | none=>
      rw [hp] at hk
      exact kput r H' (fun e=>by cases e) (fun e=>by cases e) hk
    | some s=>
      rw [hp] at hk
      have j4:IX.t s∈args∧s∈(cu.call f args pass).kill:=by
       unfold bn at hp
       simp only [cu.kill]
       split at hp
       ·rename_i j
        split at hp <;> cases hp
        rename_i hj
        try simp only [hj]
        exact ⟨abB hj,by simp⟩
       ·cases hp
      have hs:get dq s=get env1 s:=h2 _ j4.1
      have e:∀ env:Env,get env s=get env1 s→put dst r (dB env (some s))=(put dst r [(s,(get env1 s).ab)])++env:=by
       intro env he
       cases dst <;> simp [put,dB,he]
      rw [e env1 rfl] at hk
      rw [e dq hs]
      refine hK _ H' ?_ (fun e=>by cases e) (fun e=>by cases e) hk
      intro p OH
      cases dst with
      | none=>simp [put] at OH;subst OH;exact .inr j4.2
      | some d=>
        simp [put] at OH
        rcases OH with rfl | rfl
        ·left;rfl
        ·exact .inr j4.2
 | never=>exact h.elim
end Go.aI
end
section
namespace Go.aI
open Go
theorem dc {env1 dq:Env} (h:get env1=get dq):∀ mods:List (Nat×AV),get (mods++env1)=get (mods++dq)
 | []=>h
 | (k,v)::r=>by
   funext t
   simp only [List.cons_append,get]
   split
   ·rfl
   ·rw [dc h r]
theorem qG {env1 dq:Env} {t:Nat} (h:get env1 t=get dq t):∀ mods:List (Nat×AV),get (mods++env1) t=get (mods++dq) t
 | []=>h
 | (k,v)::r=>by
   simp only [List.cons_append,get]
   split
   ·rfl
   ·rw [qG h r]
theorem me {env:Env} {t:Nat}:∀ {mods:List (Nat×AV)},(∀ p∈mods,p.1≠t)→get (mods++env) t=get env t
 | [],_=>rfl
 | (k,v)::r,h=>by
   simp only [List.cons_append,get]
   rw [if_neg (fun e=>h (k,v) (by simp) e.symm),me (fun p hp=>h p (by simp [hp]))]
theorem Jg {l:List IX} {s:Nat} (h:IX.t s∈l):s∈IX.Rh l:=List.mem_filterMap.2 ⟨_,h,rfl⟩
theorem FN {o:bO} {env1 dq:Env} (hl:∀ s∈o.lk,get dq s=get env1 s):∀ i∈o.op.all,aE dq i=aE env1 i:=by
 intro i hi
 cases i with
 | c v=>rfl
 | t s=>exact hl s (List.mem_append_left _ (Jg hi))
theorem get_guard {env:Env} {g:Nat} {b:Bool} (h:get env g=.bool b):get ((g,AV.bool b)::env)=get env:=by
 funext t
 simp only [get]
 split
 ·rename_i e;rw [e,h]
 ·rfl
theorem pR {P:Px} {o:bO} {env1 dq:Env} {H:List aa} {K1 K2:Env→List aa→Prop} (hl:∀ s∈o.lk,get dq s=get env1 s) (h:vI P o env1 H K1)
 (hK:∀ e1 e2 H',(∃ mods:List (Nat×AV),(∀ p∈mods,o.dst=some p.1∨p.1∈o.op.kill)∧get e1=get (mods++env1)∧get e2=get (mods++dq))→(o.op.SO=false→H'=H)→(o.op.zV=true→∃ e,H'=H++e)→K1 e1 H'→K2 e2 H'):vI P o dq H K2:=by
 unfold vI at *
 cases hg:o.g with
 | none=>
   simp only [hg] at h ⊢
   exact pQ (FN hl) h fun mods H' hm hc hg hk=>hK _ _ H' ⟨mods,hm,rfl,rfl⟩ hc hg hk
 | some p=>
   obtain ⟨g,want⟩:=p
   simp only [hg] at h ⊢
   unfold kR at *
   have v7:get dq g=get env1 g:=hl g (by simp [bO.lk,hg])
   rw [v7]
   split at h
   rotate_left
   ·rename_i hb
    refine hK _ _ H ⟨(match o.dst with | some d=>[(d,.tuple [])] | none=>[]),?_,?_,?_⟩ (fun _=>rfl) (fun _=>⟨[],by simp⟩) h
    ·cases hd:o.dst <;> simp
    ·cases hd:o.dst <;> rfl
    ·cases hd:o.dst <;> rfl
   ·exact h.elim
   rename_i b hb
   have qz:get dq g=.bool b:=by rw [v7,hb]
   refine ⟨fun e=>?_,fun e=>?_⟩
   ·subst e
    refine pQ (env1:=(g,.bool b)::env1) (FN (o:=o) fun s hs=>?_) (h.1 rfl) fun mods H' hm hc hg hk=>hK _ _ H' ⟨mods,hm,dc (get_guard hb) mods,dc (get_guard qz) mods⟩ hc hg hk
    rw [get_guard hb,get_guard qz]
    exact hl s hs
   ·have h2:=h.2 e
    subst e
    refine hK _ _ H ⟨(match o.dst with | some d=>[(d,.tuple [])] | none=>[]),?_,?_,?_⟩ (fun _=>rfl) (fun _=>⟨[],by simp⟩) h2
    ·cases hd:o.dst <;> simp
    ·cases hd:o.dst with
     | none=>exact get_guard hb
     | some d=>exact dc (get_guard hb) [(d,.tuple [])]
    ·cases hd:o.dst with
     | none=>exact get_guard qz
     | some d=>exact dc (get_guard qz) [(d,.tuple [])]
theorem sm {P:Px} {o:bO} {env:Env} {H:List aa} {K1 K2:Env→List aa→Prop} (h:vI P o env H K1)
 (hK:∀ e1 e2 H',get e1=get e2→K1 e1 H'→K2 e2 H'):vI P o env H K2:=
 pR (fun _ _=>rfl) h fun e1 e2 H' ⟨mods,_,h1,h2⟩ _ _ hk=>hK e1 e2 H' (h1.trans h2.symm) hk
section
variable {P:Px} {ops:Array Oper} {il:List bO} {K:Env→List aa→Prop}
def qA (P:Px) (il:List bO) (i:Nat) (env:Env) (H:List aa) (K:Env→List aa→Prop):Prop:=
 match il[i]? with
 | none=>K env H
 | some o=>vI P o env H K
def xj (P:Px) (ops:Array Oper) (il:List bO) (K:Env→List aa→Prop):Nat→Array Bool→Env→List aa→Prop
 | 0,listed,env,H=>Region.ready .any ops listed=[]∧K env H
 | f + 1,listed,env,H=>(Region.ready .any ops listed=[]→K env H)∧∀ i∈Region.ready .any ops listed,qA P il i env H (xj P ops il K f (listed.setIfInBounds i true))
def Inv (K:Env→List aa→Prop):Prop:=∀ e1 e2 H,get e1=get e2→K e1 H→K e2 H
theorem ju (hK:Inv K):∀ (f:Nat) (listed:Array Bool) {e1 e2:Env} {H:List aa},get e1=get e2→xj P ops il K f listed e1 H→xj P ops il K f listed e2 H
 | 0,_,_,_,_,he,h=>⟨h.1,hK _ _ _ he h.2⟩
 | f + 1,listed,e1,e2,H,he,h=>by
   refine ⟨fun h0=>hK _ _ _ he (h.1 h0),fun i hi=>?_⟩
   have hq:=h.2 i hi
   unfold qA at *
   split
   ·rename_i hn;simp only [hn] at hq;exact ju hK f _ he hq
   ·rename_i o ho
    simp only [ho] at hq
    exact pR (fun s _=>by rw [he]) hq fun a b H' ⟨mods,_,h1,h2⟩ _ _ hk=>ju hK f _ (by rw [h1,h2,dc he]) hk
def WH (P:Px) (st:Bool) (o:bO) (env:Env) (H:List aa) (x:AV):Prop:=
 ∃ ρ:IX→AV,(∀ i∈o.op.all,aE env i=ρ i)∧match o.g with
  | none=>dv P st o.op ρ H x
  | some (g,want)=>(∃ b,get env g=.bool b∧(b=want→dv P st o.op ρ H x)∧(b≠want→x=.tuple []))∨(get env g=.tuple []∧x=.tuple [])
theorem Hz {st:Bool} {o:cu} {ρ:IX→AV} {H:List aa} {x:AV} (h:dv P st o ρ H x):dT P o ρ H x:=by
 cases st
 ·exact h H
 ·exact h
theorem xk {H e:List aa} {id:Nat} {o:aa} (h:H[id]?=some o):(H++e)[id]?=some o:=by
 rw [zz (aa2.1 h).1,h]
theorem FO {sz:Option Nat} {x:AV} {H e:List aa} {φ:AV→Prop} (h:a8 sz x H φ):a8 sz x (H++e) φ:=by
 unfold a8 at *
 split at h
 ·split at h
  ·rename_i bF;rw [xk bF];exact h
  ·exact h.elim
 ·exact h
 ·exact h.elim
theorem Jh {x:AV} {H e:List aa} {φ:AV→Prop} (h:fR x H φ):fR x (H++e) φ:=by
 unfold fR at *
 split at h <;> (try exact h)
 split at h
 ·rename_i bF;rw [xk bF];exact h
 ·exact h.elim
theorem Bu {kd:Nat} {z m k:AV} {ok:Bool} {H e:List aa} {φ:AV→Prop} (h:dg kd z m k ok H φ):dg kd z m k ok (H++e) φ:=by
 unfold dg at *
 split at h <;> (try exact h)
 split at h
 ·rename_i bF;rw [xk bF];exact h
 ·exact h.elim
theorem zZ {o:cu} {ρ:IX→AV} {H e:List aa} {x:AV} (hs:o.stays=true) (h:dT P o ρ H x):dT P o ρ (H++e) x:=by
 cases o with
 | call f args pass=>cases hs
 | load sz i=>
   unfold dT at h ⊢
   exact FO h
 | len kd i=>
   unfold dT at h ⊢
   exact ⟨h.1,Jh h.2⟩
 | lookup kd z m k ok=>
   unfold dT at h ⊢
   exact Bu h
 | set i t=>cases t <;> exact h
 | _=>exact h
theorem Dh {st:Bool} {o:cu} {ρ:IX→AV} {H H':List aa} {x:AV} (hH:st=true→H'=H∨(o.stays=true∧∃ e,H'=H++e)) (h:dv P st o ρ H x):dv P st o ρ H' x:=by
 cases st
 ·exact h
 ·rcases hH rfl with e | ⟨h1,e,he⟩
  ·rw [e];exact h
  ·rw [he];exact zZ h1 h
theorem Ji {st:Bool} {o:bO} {env1 dq:Env} {H1 H2:List aa} {x:AV} (hl:∀ s∈o.lk,get dq s=get env1 s) (hH:st=true→H2=H1∨(o.op.stays=true∧∃ e,H2=H1++e)) (h:WH P st o env1 H1 x):WH P st o dq H2 x:=by
 obtain ⟨ρ,h1,h2⟩:=h
 refine ⟨ρ,fun i hi=>(FN hl i hi).trans (h1 i hi),?_⟩
 cases hg:o.g with
 | none=>simp only [hg] at h2 ⊢;exact Dh hH h2
 | some p=>
   obtain ⟨g,want⟩:=p
   simp only [hg] at h2 ⊢
   rcases h2 with ⟨b,k1,k2,k3⟩ | ⟨k1,k2⟩
   ·exact .inl ⟨b,(hl g (by simp [bO.lk,hg])).trans k1,fun e=>Dh hH (k2 e),k3⟩
   ·exact .inr ⟨(hl g (by simp [bO.lk,hg])).trans k1,k2⟩
theorem HA {st:Bool} {o:bO} {env:Env} {H:List aa} {x:AV} (h:WH P st o env H x):vI P o env H fun e H'=>H'=H∧get e=get (put o.dst x env):=by
 obtain ⟨ρ,h1,h2⟩:=h
 unfold vI
 cases hg:o.g with
 | none=>simp only [hg] at h2 ⊢;exact De (Hz h2) h1
 | some p=>
   obtain ⟨g,want⟩:=p
   simp only [hg] at h2 ⊢
   rcases h2 with ⟨b,k1,k2,k3⟩ | ⟨k1,k2⟩
   rotate_left
   ·unfold kR
    rw [k1]
    subst k2
    exact ⟨by simp,rfl⟩
   unfold kR
   rw [k1]
   refine ⟨fun e=>?_,fun e=>?_⟩
   ·subst e
    have N1:=get_guard k1
    have:=De (dst:=o.dst) (env:=(g,.bool b)::env) (Hz (k2 rfl)) (fun i hi=>by
     rw [← h1 i hi]
     cases i with
     | c v=>rfl
     | t s=>show get _ s=get _ s;rw [N1])
    refine pQ (fun _ _=>rfl) this ?_
    intro mods H' _ _ _ hk
    refine ⟨hk.1,hk.2.trans ?_⟩
    rw [lI,lI,N1]
   ·have dP:b≠want:=by intro e2;subst e2;cases b <;> cases e
    have hx:=k3 dP
    subst hx
    subst e
    exact ⟨by simp,by rw [lI,lI,get_guard k1]⟩
def closed (ops:Array Oper) (listed:Array Bool):Prop:=∀ k o,ops[k]?=some o→listed.getD k false=true→∀ e∈o.after,Region.binds .any e=true→listed.getD e.on false=true
theorem mJ {listed:Array Bool} (hc:closed ops listed) {i:Nat}:∀ (f j:Nat) (oj:Oper),ops[j]?=some oj→(∀ e∈oj.after,Region.binds .any e=true→listed.getD e.on false=true)→dH ops f j i=true→listed.getD i false=true
 | 0,_,_,_,_,h=>by simp [dH] at h
 | f + 1,j,oj,hj,fU,h=>by
   simp only [dH,hj] at h
   obtain ⟨k,hk,he⟩:=Array.any_eq_true.1 h
   simp only [zC,abU,beq_iff_eq] at he
   have j4:oj.after[k]∈oj.after:=Array.getElem_mem hk
   have hl:=fU _ j4 he.1
   rcases he.2 with e | e
   ·rw [← e];exact hl
   ·have hso:∃ o',ops[(oj.after[k]).on]?=some o':=by
     cases f with
     | zero=>simp [dH] at e
     | succ f=>
       cases ho:ops[(oj.after[k]).on]? with
       | none=>simp [dH,ho] at e
       | some o'=>exact ⟨o',rfl⟩
    obtain ⟨o',SV⟩:=hso
    exact mJ hc f _ o' SV (hc _ _ SV hl) e
theorem qV {listed:Array Bool} {i:Nat} (h:listed.getD i true=false):listed.getD i false=false:=by
 simp only [abH] at *
 cases hx:listed[i]? with
 | none=>rfl
 | some b=>rw [hx] at h;simpa using h
theorem qW {listed:Array Bool} (hc:closed ops listed) {j:Nat} (hj:j∈Region.ready .any ops listed):closed ops (listed.setIfInBounds j true):=by
 obtain ⟨_,oj,SP,fU⟩:=mem_ready.1 hj
 intro k o ho hk e he hb
 refine getD_set_true ?_
 by_cases hkj:k=j
 ·subst hkj
  rw [SP] at ho
  cases ho
  exact fU e he hb
 ·rw [getD_set_ne false (Ne.symm hkj)] at hk
  exact hc k o ho hk e he hb
theorem Di {listed:Array Bool} {i j:Nat} {st:Bool} (h:o8 ops il listed i st=true) (hj:j < ops.size) (HB:j≠i) (hun:listed.getD j true=false) (jZ:dH ops ops.size j i=false):tM st (il.getD i default) (il.getD j default)=true:=by
 unfold o8 at h
 have:=abc.1 h j (abG.2 hj)
 simp only [abU,beq_iff_eq,hun,jZ,abI,or_false] at this
 rcases this with e | e
 ·exact absurd e HB
 ·exact e
theorem Dj {listed:Array Bool} {i j:Nat} {st:Bool} (h:o8 ops il listed i st=true):o8 ops il (listed.setIfInBounds j true) i st=true:=by
 unfold o8 at *
 refine abc.2 fun k hk=>?_
 have:=abc.1 h k hk
 simp only [abU] at this ⊢
 rcases this with ((e | e) | e) | e
 ·exact .inl (.inl (.inl e))
 ·refine .inl (.inl (.inr ?_))
  by_cases Rg:j=k
  ·subst Rg
   simp only [abH,ad5]
   split
   ·split <;> simp
   ·rename_i dP;exact absurd trivial dP
  ·rw [getD_set_ne true Rg];exact e
 ·exact .inl (.inr e)
 ·exact .inr e
theorem Dk {st:Bool} {oi oj:bO} (h:tM st oi oj=true) :
 (∀ d,oi.dst=some d→d∉oj.lk∧oj.dst≠some d∧d∉oj.op.kill)∧(∀ d,oj.dst=some d→d∉oi.lk)∧(∀ s∈oj.op.kill,s∉oi.lk)∧(st=true→oj.op.SO=false∨(oj.op.zV=true∧oi.op.stays=true)):=by
 unfold tM at h
 simp only [zC,abU,abC] at h
 obtain ⟨⟨⟨h1,h2⟩,h3⟩,h4⟩:=h
 refine ⟨fun d hd=>?_,fun d hd=>?_,fun s hs=>?_,fun e=>?_⟩
 ·rw [hd] at h1
  simpa [and_assoc] using h1
 ·rw [hd] at h2
  simpa using h2
 ·have:=abc.1 h3 s hs
  simpa using this
 ·rcases h4 with (e2 | e2) | e2
  ·rw [e] at e2;cases e2
  ·exact .inl e2
  ·exact .inr e2
theorem sn {l:List bO} {i:Nat} {o:bO} (h:l[i]?=some o):l.getD i default=o:=by
 rw [th,h];rfl
theorem Jj (hK:Inv K) (dd:il.length=ops.size) {i:Nat} {oi:bO} {x:AV} {st:Bool} (hi:il[i]?=some oi):∀ (f:Nat) (listed:Array Bool) {env:Env} {H:List aa},closed ops listed→o8 ops il listed i st=true→i∈Region.ready .any ops listed→
 WH P st oi env H x→xj P ops il K f (listed.setIfInBounds i true) (put oi.dst x env) H→xj P ops il K (f + 1) listed env H:=by
 intro f
 induction f with
 | zero=>
   intro listed env H jY E5 hr ht hD
   refine ⟨fun h=>(by rw [h] at hr;cases hr),fun j hj=>?_⟩
   by_cases HB:j=i
   ·subst HB
    unfold qA
    simp only [hi]
    exact sm (HA ht) fun e1 e2 H' he ⟨h1,h2⟩=>by
     subst h1
     exact ju hK 0 _ (h2.symm.trans he) hD
   ·have:=ready_mono hj HB
    rw [hD.1] at this
    cases this
 | succ f ih=>
   intro listed env H jY E5 hr ht hD
   refine ⟨fun h=>(by rw [h] at hr;cases hr),fun j hj=>?_⟩
   by_cases HB:j=i
   ·subst HB
    unfold qA
    simp only [hi]
    exact sm (HA ht) fun e1 e2 H' he ⟨h1,h2⟩=>by
     subst h1
     exact ju hK (f + 1) _ (h2.symm.trans he) hD
   ·have h1:=hD.2 j (ready_mono hj HB)
    obtain ⟨acD,oj',WI,fU⟩:=mem_ready.1 hj
    have hjs:j < ops.size:=(abR.1 WI).1
    have jZ:dH ops ops.size j i=false:=by
     cases hma:dH ops ops.size j i with
     | false=>rfl
     | true=>
       have:=mJ jY _ j oj' WI fU hma
       rw [qV (mem_ready.1 hr).1] at this
       cases this
    have WJ:=Di E5 hjs HB acD jZ
    rw [sn hi] at WJ
    unfold qA at *
    cases SP:il[j]? with
    | none=>
      rw [List.getElem?_eq_none_iff] at SP
      omega
    | some oj=>
      rw [sn SP] at WJ
      obtain ⟨a1,a2,a3,a4⟩:=Dk WJ
      simp only [SP] at h1 ⊢
      refine pR (env1:=put oi.dst x env) (fun s hs=>?_) h1 fun e1 e2 H' ⟨mods,hm,g1,g2⟩ hch WK hk=>?_
      ·rw [lI]
       cases hd:oi.dst with
       | none=>rfl
       | some d=>
         simp only [SU,gR]
         rw [if_neg]
         intro e
         exact (a1 d hd).1 (e ▸ hs)
      ·have HC:∀ s∈oi.lk,∀ p∈mods,p.1≠s:=by
        intro s hs p hp e
        rcases hm p hp with h | h
        ·exact a2 _ h (e ▸ hs)
        ·exact a3 _ h (e ▸ hs)
       have hmd:∀ d,oi.dst=some d→∀ p∈mods,p.1≠d:=by
        intro d hd p hp e
        rcases hm p hp with h | h
        ·exact (a1 d hd).2.1 (e ▸ h)
        ·exact (a1 d hd).2.2 (e ▸ h)
       refine ih (listed.setIfInBounds j true) (qW jY hj) (Dj E5) (ready_mono hr (Ne.symm HB)) ?_ ?_
       ·refine Ji (fun s hs=>?_) (fun e=>(a4 e).imp hch fun ⟨q1,q2⟩=>⟨q2,WK q1⟩) ht
        rw [g2]
        exact me (HC s hs)
       ·rw [Array.setIfInBounds_comm _ _ HB]
        refine ju hK f _ ?_ hk
        rw [g1,lI,g2]
        cases hd:oi.dst with
        | none=>rfl
        | some d=>
          funext t
          simp only [SU,gR,put]
          by_cases htd:t=d
          ·subst htd
           rw [if_pos rfl,me (hmd t hd)]
           simp [get]
          ·rw [if_neg htd]
           refine qG ?_ mods
           simp [get,htd]
theorem OI (hK:Inv K) (dd:il.length=ops.size):∀ (p:yL) (f:Nat) (listed:Array Bool) {env:Env} {H:List aa},closed ops listed→
 (vJ ops il f listed none p=true→CB P (inst il p) env H K→xj P ops il K f listed env H)∧
 (∀ ks,(∀ i∈ks,i∈Region.ready .any ops listed)→vJ ops il (f + 1) listed (some ks) p=true→CB P (inst il p) env H K→∀ i∈ks,qA P il i env H (xj P ops il K f (listed.setIfInBounds i true))):=by
 intro p
 induction p with
 | done=>
   intro f listed env H jY
   refine ⟨fun h hd=>?_,fun ks _ h _ i hi=>?_⟩
   ·have:Region.ready .any ops listed=[]:=by
     cases f <;> simpa [vJ,List.isEmpty_iff] using h
    simp only [inst,CB] at hd
    cases f with
    | zero=>exact ⟨this,hd⟩
    | succ f=>exact ⟨fun _=>hd,fun i hi=>by rw [this] at hi;cases hi⟩
   ·cases ks with
    | nil=>cases hi
    | cons k ks=>simp [vJ] at h
 | nil=>
   intro f listed env H jY
   refine ⟨fun h _=>by cases f <;> simp [vJ] at h,fun ks _ h _ i hi=>?_⟩
   cases ks with
   | nil=>cases hi
   | cons k ks=>simp [vJ] at h
 | take k st r ih=>
   intro f listed env H jY
   refine ⟨fun h hd=>?_,fun ks _ h _ i hi=>?_⟩
   ·cases f with
    | zero=>simp [vJ] at h
    | succ f=>
      simp only [vJ,zC,List.contains_iff_mem] at h
      obtain ⟨⟨⟨hr,aiy⟩,E5⟩,hp⟩:=h
      obtain ⟨_,ok,kw,_⟩:=mem_ready.1 hr
      have Fz:k < il.length:=by rw [dd];exact (abR.1 kw).1
      have Ov:il[k]?=some (il.getD k default):=by rw [th,Hj Fz];rfl
      simp only [inst,CB,zU] at hd
      have fin:∀ x,WH P st (il.getD k default) env H x→CB P (inst il r) (put (il.getD k default).dst x env) H K→xj P ops il K (f + 1) listed env H:=by
       intro x hx hrest
       exact Jj hK dd Ov f listed jY E5 hr hx ((ih f _ (qW jY hr)).1 hp hrest)
      cases hg:(il.getD k default).g with
      | none=>
        simp only [hg] at hd
        obtain ⟨x,hx,hrest⟩:=hd
        exact fin x ⟨aE env,fun _ _=>rfl,by simp only [hg];exact hx⟩ hrest
      | some gw=>
        obtain ⟨g,want⟩:=gw
        simp only [hg,kR] at hd
        split at hd
        rotate_left
        ·rename_i hb
         exact fin (.tuple []) ⟨aE env,fun _ _=>rfl,by simp only [hg];exact .inr ⟨hb,by trivial⟩⟩ hd
        ·exact hd.elim
        rename_i b hb
        by_cases VZ:b=want
        ·obtain ⟨x,hx,hrest⟩:=hd.1 VZ
         exact fin x ⟨aE env,fun _ _=>rfl,by simp only [hg];exact .inl ⟨b,hb,fun _=>hx,fun e=>absurd VZ e⟩⟩ hrest
        ·have hrest:=hd.2 (by cases b <;> cases want <;> first | rfl | exact absurd rfl VZ)
         exact fin (.tuple []) ⟨aE env,fun _ _=>rfl,by simp only [hg];exact .inl ⟨b,hb,fun e=>absurd e VZ,fun _=>by trivial⟩⟩ hrest
   ·cases ks with
    | nil=>cases hi
    | cons k ks=>simp [vJ] at h
 | br k t rest Ri N0=>
   intro f listed env H jY
   have key:∀ (f:Nat) (ks:List Nat),(∀ i∈k::ks,i∈Region.ready .any ops listed)→vJ ops il f (listed.setIfInBounds k true) none t=true→vJ ops il (f + 1) listed (some ks) rest=true→CB P (inst il (.br k t rest)) env H K→
    ∀ i∈k::ks,qA P il i env H (xj P ops il K f (listed.setIfInBounds i true)):=by
    intro f ks Fz h1 h2 hd i hi
    simp only [inst,CB] at hd
    rcases aak.1 hi with rfl | hi
    ·have hr:=Fz i (by simp)
     obtain ⟨_,ok,kw,_⟩:=mem_ready.1 hr
     have aM:i < il.length:=by rw [dd];exact (abR.1 kw).1
     have Ov:il[i]?=some (il.getD i default):=by rw [th,Hj aM];rfl
     unfold qA
     rw [Ov]
     exact sm hd.1 fun e1 e2 H' he hk=>ju hK f _ he ((Ri f _ (qW jY hr)).1 h1 hk)
    ·exact (N0 f listed jY).2 ks (fun j hj=>Fz j (by simp [hj])) h2 hd.2 i hi
   refine ⟨fun h hd=>?_,fun ks Fz h hd i hi=>?_⟩
   ·cases f with
    | zero=>simp [vJ] at h
    | succ f=>
      simp only [vJ] at h
      split at h
      ·rename_i k' ks hrd
       simp only [zC,beq_iff_eq] at h
       obtain ⟨⟨rfl,h1⟩,h2⟩:=h
       have:=key f ks (fun i hi=>by rw [hrd];exact hi) h1 h2 hd
       exact ⟨(fun e=>by rw [e] at hrd;cases hrd),fun i hi=>this i (by rw [hrd] at hi;exact hi)⟩
      ·cases h
   ·cases ks with
    | nil=>cases hi
    | cons k' ks=>
      simp only [vJ,zC,beq_iff_eq] at h
      obtain ⟨⟨rfl,h1⟩,h2⟩:=h
      exact key f ks Fz h1 h2 hd i hi
end
end Go.aI
end
section
namespace Go.aI
open Go
section
variable {ro:Option Nat} {P:Program} {lo:Option Nat} {A:Perm} {n:Nat}
theorem ph {ops:Array Oper} {an:CA} {rid:Nat}:∀ (fuel k:Nat) (l:List Oper) (il:List bO),fx P ops an n rid false fuel k l=some il→
 il.length=l.length∧∀ (j:Nat) (o:Oper),l[j]?=some o→∃ g,Hw ops o=some g∧Hv n o=true∧il[j]?=some ⟨g,o.dst,C8 P o (an.at_ rid (k + j))⟩
 | _,_,[],il,hc=>by
   unfold fx at hc
   cases hc
   exact ⟨rfl,fun j o h=>by simp at h⟩
 | 0,_,o::r,il,hc=>by simp [fx] at hc
 | fuel + 1,k,o::r,il,hc=>by
   unfold fx at hc
   simp only [abI,and_false,if_false] at hc
   split at hc <;> try cases hc
   rename_i g xs hg fe
   split at hc <;> cases hc
   rename_i g9
   obtain ⟨h1,h2⟩:=ph fuel (k + 1) r xs fe
   refine ⟨by simp [h1],fun j o' hj=>?_⟩
   cases j with
   | zero=>
     simp at hj
     subst hj
     exact ⟨g,hg,g9,by simp⟩
   | succ j=>
     simp at hj
     obtain ⟨g',e1,e2,e3⟩:=h2 j o' hj
     exact ⟨g',e1,e2,by simp [e3,adE,af2 1 j]⟩
theorem uX {ops:Array Oper} {il:List bO} {an:CA} {rid:Nat} {L0:List Nat} {M0:Mem} {w0:World} {K:Env→List aa→Prop} {Q:Exit→Act→World→Prop}
 (hp:∀ l,lo=some l→∀ id,l≤id→A.top id=none) (hc:fx P ops an n rid false (ops.size + 1) 0 ops.toList=some il)
 (hF:∀ (M:Mem) (L:List Nat) (w:World) (H:List aa) (env:Env) (O:Pos→Option Nat) (a:Act),K env H→Fr A n M L w H env O a→Ext A M0 w0 M w→L0 <+: L→Q .normal a w) :
 ∀ (f:Nat) (listed:Array Bool) {M:Mem} {L:List Nat} {w:World} {H:List aa} {env:Env} {O:Pos→Option Nat} {a:Act},Fr A n M L w H env O a→Ext A M0 w0 M w→L0 <+: L→xj ⟨P,lo⟩ ops il K f listed env H→wpAnyIn (wf ro) 0 P .any ops Q f listed a w
 | 0,_,_,_,_,_,_,_,_,hf,dS,hL,h=>⟨h.1,hF _ _ _ _ _ _ _ h.2 hf dS hL⟩
 | f + 1,listed,M,L,w,H,env,O,a,hf,dS,hL,h=>by
   refine ⟨fun h0=>hF _ _ _ _ _ _ _ (h.1 h0) hf dS hL,fun i hi=>?_⟩
   have hq:=h.2 i hi
   unfold wpOpIn
   cases ho:ops[i]? with
   | none=>
     obtain ⟨_,o,SV,_⟩:=mem_ready.1 hi
     rw [ho] at SV;cases SV
   | some o=>
     obtain ⟨g,hg,g9,vA⟩:=(ph _ _ _ _ hc).2 i o (by simpa using ho)
     unfold qA at hq
     rw [vA] at hq
     have hs:=zX (ro:=ro) (ops:=ops) hg g9 hp hf hq Q
     have hrest:∀ a' w',oF A n M L w (xj ⟨P,lo⟩ ops il K f (listed.setIfInBounds i true)) a' w'→wpAnyIn (wf ro) 0 P .any ops Q f (listed.setIfInBounds i true) a' w':=by
      rintro a' w' ⟨M',L',H',aW,O',k1,k2,k3,k4⟩
      exact uX hp hc hF f _ k2 (dS.trans k3) (hL.trans k4) k1
     simp only
     split
     ·rename_i hw
      rw [if_pos hw] at hs
      exact Oper.wpIn_mono hrest hs
     ·rename_i hw
      rw [if_neg hw] at hs
      exact ⟨fun _ _=>trivial,hrest _ _ hs⟩
theorem Jk (L0:List Nat) (hp:∀ l,lo=some l→∀ id,l≤id→A.top id=none):zY P ro lo A n L0:=by
 intro id ops il p live an M L w H env O a M0 w0 Q hm hB hc h hf dS hL
 simp only [qp] at h
 have hK:Inv (fun (aW:Env) (H':List aa)=>∃ e,get e=get aW∧Q .normal (ku live e) H'):=fun e1 e2 H he ⟨e,h1,h2⟩=>⟨e,h1.trans he,h2⟩
 have dd:il.length=ops.size:=by simpa using (ph _ _ _ _ hc).1
 have hB:=K9 dd p _ _ _ _ (Jc _) (by simp) hB
 have jY:closed ops (Array.replicate ops.size false):=by
  intro k o _ hk
  simp only [abH,af3] at hk
  split at hk <;> cases hk
 have hd:CB ⟨P,lo⟩ (inst il p) env H (fun (aW:Env) (H':List aa)=>∃ e,get e=get aW∧Q .normal (ku live e) H'):=by
  have mono:∀ (t:DT) (env:Env) (H:List aa) (K1 K2:Env→List aa→Prop),(∀ e H,K1 e H→K2 e H)→Inv K2→CB ⟨P,lo⟩ t env H K1→CB ⟨P,lo⟩ t env H K2:=by
   intro t
   induction t with
   | done=>intro env H K1 K2 hk _ h;exact hk _ _ h
   | nil=>intro _ _ _ _ _ _ _;trivial
   | take st o r ih=>
     intro env H K1 K2 hk hi h
     simp only [CB,zU] at h ⊢
     cases hg:o.g with
     | none=>
       simp only [hg] at h ⊢
       obtain ⟨x,hx,h⟩:=h
       exact ⟨x,hx,ih _ _ _ _ hk hi h⟩
     | some gw=>
       obtain ⟨g,want⟩:=gw
       simp only [hg,kR] at h ⊢
       split at h
       rotate_left
       ·exact ih _ _ _ _ hk hi h
       ·exact h.elim
       exact ⟨fun e=>let ⟨x,hx,h⟩:=h.1 e;⟨x,hx,ih _ _ _ _ hk hi h⟩,fun e=>ih _ _ _ _ hk hi (h.2 e)⟩
   | br o t rest Ri N0=>
     intro env H K1 K2 hk hi h
     have hinv:∀ K:Env→List aa→Prop,Inv K→∀ t,Inv fun env H=>CB ⟨P,lo⟩ t env H K:=by
      intro K hK t
      induction t with
      | done=>exact hK
      | nil=>intro _ _ _ _ _;trivial
      | take st o r ih=>
        intro e1 e2 H he h
        simp only [CB,zU] at h ⊢
        have hav:aE e2=aE e1:=by
         funext i
         cases i with
         | c v=>rfl
         | t s=>show get e2 s=get e1 s;rw [he]
        have oX:∀ x,get (put o.dst x e1)=get (put o.dst x e2):=fun x=>by rw [lI,lI,he]
        cases hg:o.g with
        | none=>
          simp only [hg] at h ⊢
          obtain ⟨x,hx,h⟩:=h
          exact ⟨x,by rw [hav];exact hx,ih _ _ _ (oX x) h⟩
        | some gw=>
          obtain ⟨g,want⟩:=gw
          simp only [hg,kR] at h ⊢
          rw [← he]
          split at h
          rotate_left
          ·exact ih _ _ _ (oX _) h
          ·exact h.elim
          exact ⟨fun e=>let ⟨x,hx,h⟩:=h.1 e;⟨x,by rw [hav];exact hx,ih _ _ _ (oX x) h⟩,fun e=>ih _ _ _ (oX _) (h.2 e)⟩
      | br o t rest Ri N0=>
        intro e1 e2 H he h
        exact ⟨pR (fun s _=>by rw [he]) h.1 fun a b H' ⟨mods,_,g1,g2⟩ _ _ hk=>Ri _ _ _ (by rw [g1,g2,dc he]) hk,N0 _ _ _ he h.2⟩
     exact ⟨sm h.1 fun e1 e2 H' he uY=>hinv K2 hi t _ _ _ he (Ri _ _ _ _ hk hi uY),N0 _ _ _ _ hk hi h.2⟩
  exact mono _ _ _ _ _ (fun e H hq=>⟨e,rfl,hq⟩) hK h
 have hA:=(OI (P:=⟨P,lo⟩) hK dd p ops.size (Array.replicate ops.size false) (env:=env) (H:=H) jY).1 hB hd
 refine wpIn_region_any hm (uX (M0:=M0) (w0:=w0) (L0:=L0) hp hc ?_ ops.size _ (M:=M) (L:=L) (H:=H) (env:=env) (O:=O) ⟨hf.st.drew,hf.size,hf.defers.ext (Ext.drew (M:=M))⟩ (dS.trans Ext.drew) hL hA)
 rintro M' L' w' H' aW O' a' ⟨e,he,hq⟩ h2 h3 h4
 obtain ⟨O'',h5⟩:=(h2.FI he).weaken (zW live e)
 exact ⟨A,M',L',H',_,O'',.refl A,hq,h5,h3,h4⟩
theorem FP {L0:List Nat} {an:CA} {lv:mr} {pl:ms} (c:Code) (ir:IR) (hc:comp P an lv pl n c=some ir) {M:Mem} {L:List Nat} {w:World} {H:List aa} {env:Env} {O:Pos→Option Nat} {a:Act} {Q:Exit→Env→List aa→Prop}
 (hA:gf lo L0.length A) (yH:Own ro w) (h:qp ⟨P,lo⟩ L0.length ir env H Q) (hf:Fr A n M L w H env O a) (hL:L0 <+: L):c.wpIn (wf ro) 0 P (FH A n M L0 w Q) a w:=
 sound (fun A hA=>Jk L0 hA.opens) c ir hc hA yH h hf hL
end
end Go.aI
end
