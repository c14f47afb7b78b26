/- Part 2 of 20 of the proof. -/
import Derived.Test.YtljchnfgjdjobaaGreatVaa
import Derived.RangeFuncNested
set_option linter.unusedVariables false
set_option linter.unusedSimpArgs false
set_option linter.defProp false
set_option linter.unusedSectionVars false
section
namespace Go.aK
open Go
def uP (xs:List AV) (H:List aa) (K:AV→List aa→Prop):Prop:=
 aj (H.length + 1) ((flat xs).map AV.ab)=true∧K (.aZ H.length 0 xs.length xs.length) (H++[.cells ((flat xs).map AV.ab)])
def c8 (z:AV) (n:Nat):List AV:=flat (List.replicate n (bS z))
def da (esz bytes:Nat) (z s x:AV) (H:List aa) (K:AV→List aa→Prop):Prop:=
 match dB x with
 | none=>(match s,wX esz x H with
   | .aZ id off len cap,some (n,ys)=>match H[id]? with
     | some (.cells es)=>n * esz≤ys.length∧(ys.take (n * esz)).all AV.one=true∧len + n≤cap∧off + cap * esz≤es.length∧aj (id + 1) ((ys.take (n * esz)).map AV.ab)=true∧
        K (.aZ id off (len + n) cap) (H.set id (.cells (ah es (off + len * esz) ((ys.take (n * esz)).map AV.ab))))
     | _=>False
   | _,_=>False)
 | some ys=>rE esz ys∧match s with
   | .ag=>ys.length * bytes≤140737488355328∧(ys=[]→K .ag H)∧(ys≠[]→∀ cap,ys.length≤cap→cap < 9223372036854775808→
      aj (H.length + 1) ((flat ys).map AV.ab++c8 z (cap - ys.length))=true∧K (.aZ H.length 0 ys.length cap) (H++[.cells ((flat ys).map AV.ab++c8 z (cap - ys.length))]))
   | .om=>ys.length * bytes≤140737488355328∧(ys=[]→K .om H)∧(ys≠[]→∀ cap,ys.length≤cap→cap < 9223372036854775808→
      aj (H.length + 1) ((flat ys).map AV.ab++c8 z (cap - ys.length))=true∧K (.aZ H.length 0 ys.length cap) (H++[.cells ((flat ys).map AV.ab++c8 z (cap - ys.length))]))
   | .aZ id off len cap=>match H[id]? with
     | some (.cells es)=>(len + ys.length) * bytes≤140737488355328∧len≤cap∧off + cap * esz≤es.length∧
        (len + ys.length≤cap→aj (id + 1) ((flat ys).map AV.ab)=true∧K (.aZ id off (len + ys.length) cap) (H.set id (.cells (ah es (off + len * esz) ((flat ys).map AV.ab)))))∧
        (cap < len + ys.length→∀ dN,len + ys.length≤dN→dN < 9223372036854775808→
          aj (H.length + 1) (((es.drop off).take (len * esz)).map AV.ab++(flat ys).map AV.ab++c8 z (dN - (len + ys.length)))=true∧
          K (.aZ H.length 0 (len + ys.length) dN) (H++[.cells (((es.drop off).take (len * esz)).map AV.ab++(flat ys).map AV.ab++c8 z (dN - (len + ys.length)))]))
     | _=>False
   | _=>False
def jz (lm:Nat→Nat) (esz bytes:Nat) (z s x:AV) (H:List aa) (K:AV→List aa→Prop):Prop:=
 match dB x with
 | none=>(match s,wX esz x H with
   | .aZ id off len cap,some (n,ys)=>match H[id]? with
     | some (.cells es)=>n * esz≤ys.length∧(ys.take (n * esz)).all AV.one=true∧len + n≤cap∧off + cap * esz≤es.length∧aj (lm id) ((ys.take (n * esz)).map AV.ab)=true∧
        K (.aZ id off (len + n) cap) (H.set id (.cells (ah es (off + len * esz) ((ys.take (n * esz)).map AV.ab))))
     | _=>False
   | _,_=>False)
 | some ys=>rE esz ys∧match s with
   | .ag=>ys.length * bytes≤140737488355328∧(ys=[]→K .ag H)∧(ys≠[]→∀ cap,ys.length≤cap→cap < 9223372036854775808→
      aj (H.length + 1) ((flat ys).map AV.ab++c8 z (cap - ys.length))=true∧K (.aZ H.length 0 ys.length cap) (H++[.cells ((flat ys).map AV.ab++c8 z (cap - ys.length))]))
   | .om=>ys.length * bytes≤140737488355328∧(ys=[]→K .om H)∧(ys≠[]→∀ cap,ys.length≤cap→cap < 9223372036854775808→
      aj (H.length + 1) ((flat ys).map AV.ab++c8 z (cap - ys.length))=true∧K (.aZ H.length 0 ys.length cap) (H++[.cells ((flat ys).map AV.ab++c8 z (cap - ys.length))]))
   | .aZ id off len cap=>match H[id]? with
     | some (.cells es)=>(len + ys.length) * bytes≤140737488355328∧len≤cap∧off + cap * esz≤es.length∧
        (len + ys.length≤cap→aj (lm id) ((flat ys).map AV.ab)=true∧K (.aZ id off (len + ys.length) cap) (H.set id (.cells (ah es (off + len * esz) ((flat ys).map AV.ab)))))∧
        (cap < len + ys.length→∀ dN,len + ys.length≤dN→dN < 9223372036854775808→
          aj (H.length + 1) (((es.drop off).take (len * esz)).map AV.ab++(flat ys).map AV.ab++c8 z (dN - (len + ys.length)))=true∧
          K (.aZ H.length 0 (len + ys.length) dN) (H++[.cells (((es.drop off).take (len * esz)).map AV.ab++(flat ys).map AV.ab++c8 z (dN - (len + ys.length)))]))
     | _=>False
   | _=>False
theorem Dq (esz bytes:Nat) (z s x:AV) (H:List aa) (K:AV→List aa→Prop):da esz bytes z s x H K=jz (· + 1) esz bytes z s x H K:=rfl
def fH (lo esz bytes:Nat) (z s x:AV) (H:List aa) (K:AV→List aa→Prop):Prop:=
 (∀ id off len cap,s=.aZ id off len cap→lo≤id)∧jz (fun _=>H.length) esz bytes z s x H K
def jn (esz:Nat) (z x:AV) (H:List aa) (K:List aa→Prop):Prop:=
 match x with
 | .aZ id off len _=>match H[id]? with
   | some (.cells es)=>off + len * esz≤es.length∧(c8 z len).all AV.one=true∧aj (id + 1) ((c8 z len).map AV.ab)=true∧K (H.set id (.cells (ah es off ((c8 z len).map AV.ab))))
   | _=>False
 | _=>False
section
variable {P:Program} {w:World} {M:Mem} {L:List Nat} {H:List aa} {A:Perm} {ev:Nat→Value} {ea:Nat→AV} {O:Pos→Option Nat}
theorem lN {α:Type} (es:List α) (off:Nat):ah es off []=es:=by simp [ah]
theorem St.Dr (hs:St A M L w H ev ea O) (cs:Array Value) (e:TypeId) {xs:List AV} (hr:aP M L cs.toList xs) (hb:aj (H.length + 1) xs=true) (hf:∀ y∈xs,∀ own zs,y=.al own zs→own=0) :
 St A M (L++[w.heap.size]) { w with heap:=w.heap.push (.cells cs e) } (H++[.cells xs]) ev ea O∧Ext A M w M { w with heap:=w.heap.push (.cells cs e) }:=
 hs.th (.cells cs e) (.cells xs) (fun w' hw hM=>⟨_,e,hw,hr.mono (Mem.bY M) ⟨_,rfl⟩,hM⟩) (by simpa [aa.bc] using hb) (fun j=>by
  simp only [ox]
  refine bj.free ?_
  intro own zs hh
  rw [rB] at hh
  cases hx:xs[j]? with
  | none=>simp [hx] at hh
  | some y=>simp [hx] at hh;exact hf y (abE hx) own zs hh)
theorem oI (xs:List AV):∀ y∈xs.map AV.ab,∀ own zs,y=.al own zs→own=0:=by
 intro y hy own zs e
 obtain ⟨q,_,rfl⟩:=aal.1 hy
 exact AV.bR q own zs e
theorem FX {z:AV} (Di:∀ y∈z.cells,∀ own xs,y=.al own xs→own=0) (n:Nat):∀ y∈c8 z n,∀ own zs,y=.al own zs→own=0:=by
 intro y hy own zs e
 simp only [c8,flat,aek] at hy
 obtain ⟨q,hq,OZ⟩:=hy
 rw [ab2 hq] at OZ
 subst e
 cases z <;> simp only [bS,AV.cells] at OZ Di
 case agg ys=>
  obtain ⟨y',_,hy'⟩:=aal.1 OZ
  exact AV.kq y' own zs hy'
 all_goals exact Di _ OZ own zs rfl
theorem Jp (hs:St A M L w H ev ea O) {t e:TypeId} (ht:P.underlying t=some (.slice e)) {esz:Nat} (he:dX P e=some esz) (h0:0 < esz) {z:AV} (hz:fX P e=some z) (eS:z.cells.length=esz) (qk:z.val=true)
 {len:Nat} (hlen:len * esz≤16777216) {parts:List (Nat×AV)} {vs:Array (Nat×Value)} (hp:∀ (j:Nat) (p:Nat×AV),parts[j]?=some p→∃ v,vs.toList[j]?=some (p.1,v)∧aW M L v p.2) (hl:vs.toList.length=parts.length)
 {K:AV→List aa→Prop} (h:bw (List.replicate len (a7 z)) esz parts fun xs=>uP xs H K) :
 ∃ r x L' w' H',(Instr.buildSlice t len vs).run P w=.ok r w'∧aW M L' r x∧(∀ own xs,x=.al own xs→own=0)∧K x H'∧St A M L' w' H' ev ea O∧Ext A M w M w'∧L <+: L':=by
 unfold fX at hz
 obtain ⟨ie,Ld,di⟩:=yR.1 he
 simp only [Ld] at hz
 split at hz
 ·rename_i zv tw
  have Dc:=(cV (M:=M) (L:=L) hz).a7.gO (tv qk)
  have v8:zv.cells.size=esz:=by have:=Dc.length;rw [fA,eS] at this;simpa using this
  obtain ⟨cs',xs',f1,f2,f3,f4,f5⟩:=oF (M:=M) (L:=L) esz parts vs.toList hp hl (kB zv.cells esz len v8 h0 (a7 z) Dc) (fun y hy=>by rw [ab2 hy,fA];exact eS) h
  simp only [acH] at f4
  obtain ⟨me,hK⟩:=f5
  have bO:(Instr.buildSlice t len vs).run P w=.ok (.slice (some ⟨w.heap.size,0,none⟩) len len) { w with heap:=w.heap.push (.cells cs' e) }:=by
   by_cases n8:len * ie.size=0
   ·have Dd:len=0:=by
     rcases Nat.mul_eq_zero.1 n8 with h' | h'
     ·exact h'
     ·omega
    subst Dd
    have OU:cs'=#[]:=by
     have:=f2.length
     rw [cW _ esz f3,f4] at this
     simp at this
     exact this
    have Xe:vs.toList=[]:=by
     cases zc:vs.toList with
     | nil=>rfl
     | cons q r=>
       rw [zc] at hl
       cases parts with
       | nil=>simp at hl
       | cons p ps=>obtain ⟨_,_,h3,_⟩:=h;simp at h3
    subst OU
    have hf:Instr.fill (fun i=>some (i * ie.size,ie.size)) #[] vs.toList=some #[]:=by rw [Xe];rfl
    simp [Instr.buildSlice,run_underlying ht,sizeOf,typeInfo,Ld,newRow,Xe,Instr.fill]
    congr 2
    apply Array.ext'
    simp
   ·rw [run_buildSlice w t e len vs cs' ie zv ht Ld tw (by rw [di];omega) n8 (by rw [di];exact f1)]
    rfl
  obtain ⟨g1,g2⟩:=hs.Dr cs' e f2.dn me (oI _)
  have hbd:len < 9223372036854775808:=by
   have:len≤len * esz:=ab5 _ h0
   omega
  refine ⟨_,.aZ H.length 0 len len,_,_,_,bO,.aZ w.heap.size 0 _ _ H.length ?_ hbd,(by intro _ _ e;cases e),by rw [f4] at hK;exact hK,g1,g2,⟨_,rfl⟩⟩
  rw [abt (by rw [hs.len];exact rC _),hs.len];simp
 ·cases hz
theorem rQ (hs:St A M L w H ev ea O) {t ty e:TypeId} {i:TypeInfo} {zv:Value} {esz bytes:Nat} (ht:P.underlying t=some (.slice e)) (hi:P.info? e=some i) (hz:i.zero=some zv) (di:i.size=esz) (tc:i.bytes=bytes) (h0:0 < esz) (rF:0 < bytes)
 {z:AV} (yT:ofValue zv=some z) (qk:z.val=true) (eS:z.cells.length=esz) (Di:∀ y∈z.cells,∀ own xs,y=.al own xs→own=0) {u v:Value} {s x:AV} {K:AV→List aa→Prop} {lm:Nat→Nat} (O5:∀ id off len cap,s=.aZ id off len cap→id < H.length→lm id≤A.iS H.length id) (h:jz lm esz bytes z s x H K) (hu:aW M L u s) (hv:aW M L v x) :
 ∃ r y L' w' H' O',(Builtin.append_ #[t,t] ty #[u,v]).run P w=.ok r w'∧aW M L' r y∧(∀ own xs,y=.al own xs→own=0)∧K y H'∧St A M L' w' H' ev ea O'∧Ext A M w M w'∧L <+: L':=by
 unfold jz at h
 split at h
 ·-- out of an object
  rename_i hnone
  split at h <;> try exact h.elim
  rename_i id off len cap n ys wY
  split at h <;> try exact h.elim
  rename_i es bn
  obtain ⟨hny,lK,hroom,vM,me,hK⟩:=h
  cases hu with
  | aZ b _ _ _ _ hl hc=>
  obtain ⟨cs,e',h1,h2,h3⟩:=fS hs bn hl
  have jL:=h2.length
  have zd:(len + n) * esz≤cap * esz:=ach _ hroom
  rw [abP] at zd
  unfold wX at wY
  split at wY
  ·simp [dB] at hnone
  ·simp [dB] at hnone
  ·rename_i id2 off2 Xp Xq
   split at wY <;> try cases wY
   rename_i es2 O6
   split at wY <;> cases wY
   rename_i hfit2
   cases hv with
   | aZ b2 _ _ _ _ pr mW=>
   obtain ⟨cs2,e2,k1,k2,k3⟩:=fS hs O6 pr
   have ahS:=k2.length
   by_cases Dh:n=0
   ·subst Dh
    simp only [afM,List.take_zero,List.map_nil,lN,aeR] at hK
    have es':H.set id (.cells es)=H:=by
     obtain ⟨k9,e1⟩:=aaJ.1 bn
     rw [← e1];simp
    rw [es'] at hK
    exact ⟨_,.aZ id off len cap,L,w,H,O,dG ht hi w _ len cap (by omega) _ Xq,.aZ b off len cap id hl hc,(by intro _ _ e;cases e),hK,hs,Ext.refl A M w,aav L⟩
   ·have wc:((cs2.toList.drop off2).take (n * esz)).length=n * esz:=by
     rw [ab0,aej];omega
    have hnews:∀ j u,((cs2.toList.drop off2).take (n * esz))[j]?=some u→w.cell? ((⟨b2,off2,none⟩:Addr).add j)=some u:=fun j u hu=>by
     rw [Addr.add_lit];exact k3 _ _ (dF _ _ _ _ _ hu)
    have Bs:aP M L ((cs2.toList.drop off2).take (n * esz)) ((es2.drop off2).take (n * esz)):=(k2.drop off2).take _
    have Xr:=Bs.iz lK
    have bO:=gP (P:=P) (ty:=ty) ht hi w b off len cap cs (0,0) h1 (pj _) ⟨b2,off2,none⟩ n Xq ((cs2.toList.drop off2).take (n * esz)) (by rw [di];exact wc) hnews Xr hroom (by
     have:es.length=cs.size:=by rw [← jL];simp
     rw [di,wc];omega)
    rw [di] at bO
    obtain ⟨O',g1,g2⟩:=hs.By (off:=off + len * esz) bn hl h1 h2 Bs (by rw [ab0,aej];omega) (bE (O5 _ _ _ _ rfl (aR bn)) _ me)
    exact ⟨_,.aZ id off (len + n) cap,L,_,_,O',bO,.aZ b off _ cap id hl hc,(by intro _ _ e;cases e),hK,g1,g2,aav L⟩
  ·cases wY
 rename_i ys rG
 obtain ⟨jM,h⟩:=h
 have Dc:=(cV (M:=M) (L:=L) yT).bS.gO (qJ qk)
 have v8:zv.cells.size=esz:=by have:=Dc.length;rw [kc,eS] at this;simpa using this
 have hesz0:esz≠0:=by omega
 have Lo:∀ n,aP M L (Builtin.zeroCells zv.cells n).toList (c8 z n):=fun n=>by
  have:=kB (M:=M) (L:=L) zv.cells esz n v8 h0 (bS z) Dc
  rw [Builtin.zeroCells,v8]
  rw [v8] at this
  exact this
 -- a new row
 have grow:∀ (olds news:List Value) (xs:List AV) (k need oldCap:Nat) (w':World),aP M L olds xs→aP M L news (flat ys)→need≤maxLen→
  w'=w.drew.alloc (.cells (olds.toArray++news.toArray++Builtin.zeroCells zv.cells (grownCap w need oldCap e - need)) e)→
  (Builtin.append_ #[t,t] ty #[u,v]).run P w=.ok (.slice (some ⟨w.heap.size,0,none⟩) need (grownCap w need oldCap e)) w'→
  (∀ dN,need≤dN→dN < 9223372036854775808→aj (H.length + 1) (xs.map AV.ab++(flat ys).map AV.ab++c8 z (dN - need))=true∧K (.aZ H.length 0 need dN) (H++[.cells (xs.map AV.ab++(flat ys).map AV.ab++c8 z (dN - need))]))→
  ∃ r y L' w' H' O',(Builtin.append_ #[t,t] ty #[u,v]).run P w=.ok r w'∧aW M L' r y∧(∀ own xs,y=.al own xs→own=0)∧K y H'∧St A M L' w' H' ev ea O'∧Ext A M w M w'∧L <+: L':=by
  intro olds news xs k need oldCap w' Xh Bs hneed Lh bO hK
  have jw:=grownCap_ge w need oldCap e
  have hle:=grownCap_le_maxLen w need oldCap e hneed
  simp only [maxLen] at hle
  obtain ⟨me,hK⟩:=hK _ jw (by omega)
  obtain ⟨g1,g2⟩:=hs.drew.Dr (olds.toArray++news.toArray++Builtin.zeroCells zv.cells (grownCap w need oldCap e - need)) e (xs:=xs.map AV.ab++(flat ys).map AV.ab++c8 z (grownCap w need oldCap e - need))
   (by rw [afS,afS];exact (Xh.dn.append Bs.dn).append (Lo _)) me (by
     intro y hy
     rcases abJ.1 hy with hy | hy
     ·rcases abJ.1 hy with hy | hy
      ·exact oI _ y hy
      ·exact oI _ y hy
     ·exact FX Di _ y hy)
  subst Lh
  refine ⟨_,.aZ H.length 0 need (grownCap w need oldCap e),L++[w.heap.size],_,_,O,bO,.aZ w.heap.size 0 _ _ H.length ?_ (by omega),(by intro _ _ e;cases e),hK,g1,Ext.drew.trans g2,⟨_,rfl⟩⟩
  rw [abt (by rw [hs.len];exact rC _),hs.len];simp
 split at h <;> try exact h.elim
 ·-- onto nothing
  obtain ⟨hbound,hn,hc⟩:=h
  cases hu
  rcases mV rG jM hv with ⟨rfl,b',c',rfl⟩ | ⟨Dh,b2,o2,c2,news,rfl,Bs,R3,wc⟩
  ·exact ⟨_,.ag,L,w,H,O,dG ht hi w none 0 0 (rC _) b' c',.ag,(by intro _ _ e;cases e),hn rfl,hs,Ext.refl A M w,aav L⟩
  ·have hnews:∀ j u,news[j]?=some u→w.cell? ((⟨b2,o2,none⟩:Addr).add j)=some u:=je R3 hs.mem
   have hlen:ys.length≤140737488355328:=abX (ab5 _ rF) hbound
   have hbound':ys.length * i.bytes≤140737488355328:=by rw [tc];exact hbound
   have hr:=run_append_nil (P:=P) w t ty e i zv ht hi hz ⟨b2,o2,none⟩ ys.length c2 news (by rw [di];exact wc) hnews Dh (by omega) (by first | omega | (simp at hbound';omega))
   refine grow [] news [] 0 ys.length 0 _ .nil Bs (by simp only [maxLen];omega) rfl (by simpa using hr) fun dN h1 h2=>?_
   have:=hc (by intro e;rw [e] at Dh;simp at Dh) dN h1 h2
   simpa using this
 ·-- onto what is empty
  obtain ⟨hbound,hn,hc⟩:=h
  cases hu with
  | om ad=>
  rcases mV rG jM hv with ⟨rfl,b',c',rfl⟩ | ⟨Dh,b2,o2,c2,news,rfl,Bs,R3,wc⟩
  ·exact ⟨_,.om,L,w,H,O,dG ht hi w ad 0 0 (rC _) b' c',.om _,(by intro _ _ e;cases e),hn rfl,hs,Ext.refl A M w,aav L⟩
  ·have hnews:∀ j u,news[j]?=some u→w.cell? ((⟨b2,o2,none⟩:Addr).add j)=some u:=je R3 hs.mem
   have hlen:ys.length≤140737488355328:=abX (ab5 _ rF) hbound
   have hbound':ys.length * i.bytes≤140737488355328:=by rw [tc];exact hbound
   have hK:∀ dN,ys.length≤dN→dN < 9223372036854775808→aj (H.length + 1) (([]:List AV).map AV.ab++(flat ys).map AV.ab++c8 z (dN - ys.length))=true∧K (.aZ H.length 0 ys.length dN) (H++[.cells (([]:List AV).map AV.ab++(flat ys).map AV.ab++c8 z (dN - ys.length))]):=fun dN h1 h2=>by
    have:=hc (by intro e;rw [e] at Dh;simp at Dh) dN h1 h2
    simpa using this
   cases ad with
   | none=>
     have hr:=run_append_nil (P:=P) w t ty e i zv ht hi hz ⟨b2,o2,none⟩ ys.length c2 news (by rw [di];exact wc) hnews Dh (by omega) (by first | omega | (simp at hbound';omega))
     exact grow [] news [] 0 ys.length 0 _ .nil Bs (by simp only [maxLen];omega) rfl (by simpa using hr) hK
   | some ad=>
     have hr:=run_append_grow (P:=P) w t ty e i zv ht hi hz ad 0 0 [] (by simp) (fun j v hv=>by simp at hv)
      ⟨b2,o2,none⟩ ys.length c2 news (by rw [di];exact wc) hnews (by omega) (by omega) (growslice_fits (by omega) (by simpa using hbound'))
     simp only [abM] at hr
     exact grow [] news [] 0 ys.length 0 _ .nil Bs (by simp only [maxLen];omega) rfl hr hK
 ·rename_i id off len cap
  split at h <;> try exact h.elim
  rename_i es bn
  obtain ⟨hbound,Bo,vM,k8,K3⟩:=h
  cases hu with
  | aZ b _ _ _ _ hl hc=>
  obtain ⟨cs,e',h1,h2,h3⟩:=fS hs bn hl
  have jL:=h2.length
  rcases mV rG jM hv with ⟨rfl,b',c',rfl⟩ | ⟨Dh,b2,o2,c2,news,rfl,Bs,R3,wc⟩
  ·obtain ⟨_,hK⟩:=k8 (by simpa using Bo)
   simp only [flat,afB,List.map_nil,lN,List.length_nil,aeR] at hK
   have es':H.set id (.cells es)=H:=by
    obtain ⟨k9,e1⟩:=aaJ.1 bn
    rw [← e1];simp
   rw [es'] at hK
   exact ⟨_,.aZ id off len cap,L,w,H,O,dG ht hi w _ len cap Bo b' c',.aZ b off len cap id hl hc,(by intro _ _ e;cases e),hK,hs,Ext.refl A M w,aav L⟩
  ·have hnews:∀ j u,news[j]?=some u→w.cell? ((⟨b2,o2,none⟩:Addr).add j)=some u:=je R3 hs.mem
   have lK:=Bs.iz (Df jM)
   have O4:(flat ys).length=ys.length * esz:=cW ys esz (fun y hy=>(jM y hy).1)
   by_cases hroom:len + ys.length≤cap
   ·obtain ⟨me,hK⟩:=k8 hroom
    have zd:(len + ys.length) * esz≤cap * esz:=ach _ hroom
    rw [abP] at zd
    have ahT:es.length=cs.size:=by rw [← jL];simp
    have bO:=gP (P:=P) (ty:=ty) ht hi w b off len cap cs (0,0) h1 (pj _) ⟨b2,o2,none⟩ ys.length c2 news (by rw [di];exact wc) hnews lK hroom (by rw [di,wc];omega)
    rw [di] at bO
    obtain ⟨O',g1,g2⟩:=hs.By (off:=off + len * esz) bn hl h1 h2 Bs (by rw [O4];omega) (bE (O5 _ _ _ _ rfl (aR bn)) _ me)
    exact ⟨_,.aZ id off (len + ys.length) cap,L,_,_,O',bO,.aZ b off _ cap id hl hc,(by intro _ _ e;cases e),hK,g1,g2,aav L⟩
   ·have hlen:(len + ys.length)≤140737488355328:=abX (ab5 _ rF) hbound
    have hbound':(len + ys.length) * i.bytes≤140737488355328:=by rw [tc];exact hbound
    have zd:len * esz≤cap * esz:=ach _ Bo
    have acv:((cs.toList.drop off).take (len * esz)).length=len * esz:=by rw [ab0,aej];omega
    have hr:=run_append_grow (P:=P) w t ty e i zv ht hi hz ⟨b,off,none⟩ len cap ((cs.toList.drop off).take (len * esz)) (by rw [di];exact acv) (fun j v hv=>by rw [Addr.add_lit];exact h3 _ _ (dF _ _ _ _ _ hv))
     ⟨b2,o2,none⟩ ys.length c2 news (by rw [di];exact wc) hnews (by omega) (by omega) (growslice_fits (by omega) hbound')
    exact grow _ news ((es.drop off).take (len * esz)) 0 (len + ys.length) cap _ ((h2.drop off).take _) Bs (by simp only [maxLen];omega) rfl hr fun dN a b=>K3 (by omega) dN a b
theorem BA (hs:St A M L w H ev ea O) {t ty e:TypeId} {i:TypeInfo} {zv:Value} {esz bytes:Nat} (ht:P.underlying t=some (.slice e)) (hi:P.info? e=some i) (hz:i.zero=some zv) (di:i.size=esz) (tc:i.bytes=bytes) (h0:0 < esz) (rF:0 < bytes)
 {z:AV} (yT:ofValue zv=some z) (qk:z.val=true) (eS:z.cells.length=esz) (Di:∀ y∈z.cells,∀ own xs,y=.al own xs→own=0) {u v:Value} {s x:AV} {K:AV→List aa→Prop} (h:da esz bytes z s x H K) (hu:aW M L u s) (hv:aW M L v x) :
 ∃ r y L' w' H' O',(Builtin.append_ #[t,t] ty #[u,v]).run P w=.ok r w'∧aW M L' r y∧(∀ own xs,y=.al own xs→own=0)∧K y H'∧St A M L' w' H' ev ea O'∧Ext A M w M w'∧L <+: L':=by
 rw [Dq] at h
 exact rQ (ty:=ty) hs ht hi hz di tc h0 rF yT qk eS Di (fun id _ _ _ _ bn=>A.lI bn) h hu hv
theorem BB {lo:Nat} (vL:∀ id,lo≤id→A.top id=none) (hs:St A M L w H ev ea O) {t ty e:TypeId} {i:TypeInfo} {zv:Value} {esz bytes:Nat} (ht:P.underlying t=some (.slice e)) (hi:P.info? e=some i) (hz:i.zero=some zv) (di:i.size=esz) (tc:i.bytes=bytes) (h0:0 < esz) (rF:0 < bytes)
 {z:AV} (yT:ofValue zv=some z) (qk:z.val=true) (eS:z.cells.length=esz) (Di:∀ y∈z.cells,∀ own xs,y=.al own xs→own=0) {u v:Value} {s x:AV} {K:AV→List aa→Prop} (h:fH lo esz bytes z s x H K) (hu:aW M L u s) (hv:aW M L v x) :
 ∃ r y L' w' H' O',(Builtin.append_ #[t,t] ty #[u,v]).run P w=.ok r w'∧aW M L' r y∧(∀ own xs,y=.al own xs→own=0)∧K y H'∧St A M L' w' H' ev ea O'∧Ext A M w M w'∧L <+: L':=by
 refine rQ (ty:=ty) hs ht hi hz di tc h0 rF yT qk eS Di (fun id off len cap e bn=>?_) h.2 hu hv
 have:A.iS H.length id=H.length:=by unfold Perm.iS;rw [vL id (h.1 _ _ _ _ e)]
 rw [this];exact rC _
theorem Ds (hs:St A M L w H ev ea O) {t e:TypeId} {i:TypeInfo} {zv:Value} {esz:Nat} (ht:P.underlying t=some (.slice e)) (hi:P.info? e=some i) (hz:i.zero=some zv) (h0:0 < esz)
 {z:AV} (yT:ofValue zv=some z) (qk:z.val=true) (eS:z.cells.length=esz) {v:Value} {x:AV} {K:List aa→Prop} (h:jn esz z x H K) (hv:aW M L v x) (ty:TypeId) :
 ∃ w' H' O',(Builtin.clear_ #[t] ty #[v]).run P w=.ok (.tuple #[]) w'∧K H'∧St A M L w' H' ev ea O'∧Ext A M w M w':=by
 unfold jn at h
 split at h <;> try exact h.elim
 rename_i id off len cap
 split at h <;> try exact h.elim
 rename_i es bn
 obtain ⟨vM,lK,me,hK⟩:=h
 cases hv with
 | aZ b _ _ _ _ hl hc=>
 have Dc:=(cV (M:=M) (L:=L) yT).bS.gO (qJ qk)
 have v8:zv.cells.size=esz:=by have:=Dc.length;rw [kc,eS] at this;simpa using this
 have Lo:aP M L (Builtin.zeroCells zv.cells len).toList (c8 z len):=by
  have:=kB (M:=M) (L:=L) zv.cells esz len v8 h0 (bS z) Dc
  rw [Builtin.zeroCells,v8]
  rw [v8] at this
  exact this
 obtain ⟨cs,e',h1,h2,h3⟩:=hs.obj id _ b bn hl
 have jL:=h2.length
 have ta:(c8 z len).length=len * esz:=by
  unfold c8
  rw [cW _ esz (fun y hy=>by rw [ab2 hy,kc];exact eS),acH]
 have rN:=Lo.length
 by_cases Dd:len=0
 ·subst Dd
  have e0:c8 z 0=[]:=rfl
  rw [e0] at hK
  simp only [List.map_nil,lN] at hK
  have es':H.set id (.cells es)=H:=by
   obtain ⟨k9,e1⟩:=aaJ.1 bn
   rw [← e1];simp
  rw [es'] at hK
  refine ⟨w,H,O,?_,hK,hs,Ext.refl A M w⟩
  simp [Builtin.clear_,run_underlying ht]
 ·have bX:=run_storeCells_at P b off e' (Builtin.zeroCells zv.cells len).toList 0 cs w h1 (by simp at jL ⊢;simp at rN;omega) (Lo.iz lK)
  obtain ⟨O',g1,g2⟩:=hs.Lk (off:=off) bn hl h1 h2 Lo (by omega) me
  refine ⟨_,_,O',?_,hK,g1,g2⟩
  have mX:(storeCells ⟨b,off,none⟩ (Builtin.zeroCells zv.cells len).toList).run P w=.ok () (w.setRow b (ah cs.toList off (Builtin.zeroCells zv.cells len).toList).toArray):=by simpa [ah] using bX
  have hzero:(zeroValue e).run P w=.ok zv w:=by simp [zeroValue,typeInfo,hi,hz]
  have n8:∃ m,len=m + 1:=⟨len - 1,by omega⟩
  obtain ⟨m,rfl⟩:=n8
  simp [Builtin.clear_,run_underlying ht,hzero,mX]
end
end Go.aK
end
section
namespace Go.aK
open Go
def Perm.entry (A:Perm) (loose:Bool) (n:Nat):Prop:=(∀ id,id < n→∃ m,m≤n∧A.top id=some m)∧∀ id,n≤id→A.top id=if loose=true then none else some (id + 1)
def lO (loose:Bool) (P:Program) (f:FuncId) (args:List AV) (H:List aa) (R:AV→List aa→Prop):Prop:=
 ∀ A M L w (vs:Array Value) O,A.entry loose H.length→vs.size=args.length→St A M L w H (fun t=>vs.getD t undef) (fun t=>args.getD t .any) O→
  ((callFunc f vs).run P w=.ok (.enter f vs) w∧Calls P f vs w fun e w'=>∃ v r H' M' L' O',e=.returned v∧R r H'∧St A M' L' w' H' (fW (fun _=>undef) 0 v) (fW (fun _=>.any) 0 r) O'∧Ext A M w M' w'∧L <+: L')∨
  (∃ v w' r H' M' L' O',(callFunc f vs).run P w=.ok (.value v) w'∧R r H'∧St A M' L' w' H' (fW (fun _=>undef) 0 v) (fW (fun _=>.any) 0 r) O'∧Ext A M w M' w'∧L <+: L')
def ax (P:Program) (f:FuncId) (args:List AV) (H:List aa) (R:AV→List aa→Prop):Prop:=lO false P f args H R
def jo (P:Program) (f:FuncId) (args:List AV) (H:List aa) (R:AV→List aa→Prop):Prop:=lO true P f args H R
theorem lO.mono {b:Bool} {P:Program} {f:FuncId} {args:List AV} {H:List aa} {R R':AV→List aa→Prop} (h:lO b P f args H R) (hr:∀ r H',R r H'→R' r H'):lO b P f args H R':=by
 intro A M L w vs O hA hs bX
 rcases h A M L w vs O hA hs bX with ⟨h1,h2⟩ | ⟨v,w',r,H',M',L',O',h1,h2,h3⟩
 ·exact .inl ⟨h1,h2.mono fun e w' ⟨v,r,H',M',L',O',h1,h2,h3⟩=>⟨v,r,H',M',L',O',h1,hr _ _ h2,h3⟩⟩
 ·exact .inr ⟨v,w',r,H',M',L',O',h1,hr _ _ h2,h3⟩
theorem ax.mono {P:Program} {f:FuncId} {args:List AV} {H:List aa} {R R':AV→List aa→Prop} (h:ax P f args H R) (hr:∀ r H',R r H'→R' r H'):ax P f args H R':=lO.mono h hr
theorem jo.mono {P:Program} {f:FuncId} {args:List AV} {H:List aa} {R R':AV→List aa→Prop} (h:jo P f args H R) (hr:∀ r H',R r H'→R' r H'):jo P f args H R':=lO.mono h hr
theorem ax.body {P:Program} {f:FuncId} {args:List AV} {H:List aa} {R:AV→List aa→Prop} (h:ax P f args H R) (he:∀ (as:Array Value) (w:World),(callFunc f as).run P w=.ok (.enter f as) w)
 {A:Perm} {M:Mem} {L:List Nat} {w:World} {vs:Array Value} {O:Pos→Option Nat} (hA:A.entry false H.length) (hs:vs.size=args.length) (bX:St A M L w H (fun t=>vs.getD t undef) (fun t=>args.getD t .any) O) :
 Calls P f vs w fun e w'=>∃ v r H' M' L' O',e=.returned v∧R r H'∧St A M' L' w' H' (fW (fun _=>undef) 0 v) (fW (fun _=>.any) 0 r) O'∧Ext A M w M' w'∧L <+: L':=by
 rcases h A M L w vs O hA hs bX with ⟨h1,h2⟩ | ⟨v,w',r,H',M',L',O',h1,h2,h3⟩
 ·exact h2
 ·rw [he] at h1;cases h1
structure Px where
 prog:Program
 lo:Option Nat
instance:Coe Program Px:=⟨fun P=>⟨P,none⟩⟩
def dO (P:Px) (f:FuncId) (args:List AV) (H:List aa) (R:AV→List aa→Prop):Prop:=
 match P.lo with
 | none=>ax P.prog f args H R
 | some l=>ax P.prog f args H R∨(l≤H.length∧jo P.prog f args H R)
theorem dO.of {P:Px} {f:FuncId} {args:List AV} {H:List aa} {R:AV→List aa→Prop} (h:ax P.prog f args H R):dO P f args H R:=by
 unfold dO;split
 ·exact h
 ·exact .inl h
theorem dO.ofL {P:Program} {l:Nat} {f:FuncId} {args:List AV} {H:List aa} {R:AV→List aa→Prop} (hl:l≤H.length) (h:jo P f args H R):dO ⟨P,some l⟩ f args H R:=.inr ⟨hl,h⟩
theorem dO.mono {P:Px} {f:FuncId} {args:List AV} {H:List aa} {R R':AV→List aa→Prop} (h:dO P f args H R) (hr:∀ r H',R r H'→R' r H'):dO P f args H R':=by
 unfold dO at *;split at h
 ·exact h.mono hr
 ·rcases h with h | ⟨h1,h2⟩
  ·exact .inl (h.mono hr)
  ·exact .inr ⟨h1,h2.mono hr⟩
def fV (loose:Bool) (P:Program) (id:Nat) (args:List AV) (H:List aa) (R:AV→List aa→Prop):Prop:=
 ∀ A M L w (vs:Array Value) O b,A.entry loose H.length→vs.size=args.length→L[id]?=some b→St A M L w H (fun t=>vs.getD t undef) (fun t=>args.getD t .any) O→
  ∃ fn tmps as bd,(Instr.yield b vs).run P w=.ok (.round b fn tmps as bd) w∧RoundIn Fence.wide 0 P b fn tmps as bd w fun e w'=>
   ∃ v r H' M' L' O',e=.returned v∧R r H'∧St A M' L' w' H' (fW (fun _=>undef) 0 v) (fW (fun _=>.any) 0 r) O'∧Ext A M w M' w'∧L <+: L'
theorem fV.mono {b:Bool} {P:Program} {id:Nat} {args:List AV} {H:List aa} {R R':AV→List aa→Prop} (h:fV b P id args H R) (hr:∀ r H',R r H'→R' r H'):fV b P id args H R':=by
 intro A M L w vs O c hA hs hc bX
 obtain ⟨fn,tmps,as,bd,h1,h2⟩:=h A M L w vs O c hA hs hc bX
 exact ⟨fn,tmps,as,bd,h1,h2.mono fun e w' ⟨v,r,H',M',L',O',h1,h2,h3⟩=>⟨v,r,H',M',L',O',h1,hr _ _ h2,h3⟩⟩
def kI (P:Program) (id:Nat) (args:List AV) (H:List aa) (R:AV→List aa→Prop):Prop:=fV false P id args H R
def O7 (P:Program) (id:Nat) (args:List AV) (H:List aa) (R:AV→List aa→Prop):Prop:=fV true P id args H R
def mZ (P:Px) (id:Nat) (args:List AV) (H:List aa) (R:AV→List aa→Prop):Prop:=
 match P.lo with
 | none=>kI P.prog id args H R
 | some l=>kI P.prog id args H R∨(l≤H.length∧O7 P.prog id args H R)
theorem mZ.mono {P:Px} {id:Nat} {args:List AV} {H:List aa} {R R':AV→List aa→Prop} (h:mZ P id args H R) (hr:∀ r H',R r H'→R' r H'):mZ P id args H R':=by
 unfold mZ at *;split at h
 ·exact fV.mono h hr
 ·rcases h with h | ⟨h1,h2⟩
  ·exact .inl (fV.mono h hr)
  ·exact .inr ⟨h1,fV.mono h2 hr⟩
def z5:List AV→List AV→Prop
 | [],[]=>True
 | x::xs,y::ys=>x.le y∧z5 xs ys
 | _,_=>False
def aN (env:Env) (pass:Option Nat):Nat→List IX→List AV
 | _,[]=>[]
 | j,.t s::xs=>(if pass=some j then get env s else (get env s).ab)::aN env pass (j + 1) xs
 | j,.c v::xs=>v.ab::aN env pass (j + 1) xs
def bh (args:List IX) (pass:Option Nat):Option Nat:=
 match pass with
 | some j=>match args[j]? with
   | some (.t s)=>some s
   | _=>none
 | none=>none
def cQ (env:Env) (s:Option Nat):Env:=match s with | some d=>(d,(get env d).ab)::env | none=>env
def qo (P:Px) (f:AV) (args:List IX) (pass:Option Nat) (env:Env) (H:List aa) (K:AV→Env→List aa→Prop):Prop:=
 match f with
 | .fn (.func g) first cap=>∃ bZ,z5 (first.map AV.ab++aN env pass 0 args++cap.map AV.ab) bZ∧dO P g bZ H (fun r H'=>K r (cQ env (bh args pass)) H')
 | .ou id=>∃ bZ,z5 (aN env pass 0 args) bZ∧mZ P id bZ H (fun r H'=>K r (cQ env (bh args pass)) H')
 | _=>False
def aO (kd:Nat) (x:AV):Prop:=
 match kd,x with
 | 0,.str _=>True
 | 1,.ag=>True
 | 1,.al _ _=>True
 | 1,.aZ _ _ _ _=>True
 | 1,.om=>True
 | 2,.jN=>True
 | 2,.map _=>True
 | _,_=>False
def gQ (env:Env) (x:Option IX):Option AV:=x.map (aq env)
def bC (P:Px) (o:cv) (dst:Option Nat) (env:Env) (H:List aa) (K:Env→List aa→Prop):Prop:=
 match o with
 | .set x take=>match dst with | some d=>K (vJ env d x take) H | none=>K env H
 | .pick c a b=>fy (aq env c) fun q=>(q=true→K (put dst (aq env a).ab env) H)∧(q=false→K (put dst (aq env b).ab env) H)
 | .bin op x y=>dt op (aq env x) (aq env y) fun z=>K (put dst z env) H
 | .shift op x y=>eE op (aq env x) (aq env y) fun z=>K (put dst z env) H
 | .jd neq x y=>dg neq (aq env x) (aq env y) fun z=>K (put dst z env) H
 | .jZ kd neq x=>dz kd neq (aq env x) fun z=>K (put dst z env) H
 | .un op x=>Bl op (aq env x) fun z=>K (put dst z env) H
 | .box x=>(aq env x).val=true∧aj (H.length + 1) ((aq env x).cells.map AV.ab)=true∧K (put dst (.ptr H.length 0) env) (H++[.cells ((aq env x).cells.map AV.ab)])
 | .mR x=>(aq env x).val=true∧K (put dst (.ai (aq env x)) env) H
 | .tn m x=>(aq env x).val=true∧(aq env x).cells.length=m∧(aq env x).cells.all AV.one=true∧K (put dst (.ai (aq env x)) env) H
 | .alloc z=>aj (H.length + 1) (z.cells.map AV.ab)=true∧K (put dst (.ptr H.length 0) env) (H++[.cells (z.cells.map AV.ab)])
 | .build z ps=>cH z.cells (ps.map fun q=>(q.1,q.2.1,aq env q.2.2)) fun v=>K (put dst v env) H
 | .buildSlice own esz z len ps=>bw (List.replicate len (a7 z)) esz (ps.map fun q=>(q.1,aq env q.2)) fun xs=>K (put dst (.al own xs) env) H
 | .load sz a=>aV sz (aq env a) H fun z=>K (put dst z env) H
 | .uH sz esz a=>aV sz (aq env a) H fun z=>fY esz z H fun y H'=>K (put dst y env) H'
 | .eX a=>match dst,aq env a with
   | some d,.ptr id off=>match H[id]? with
     | some (.cells es)=>off < es.length∧K ((d,es.getD off .any)::env) (H.set id (.cells (es.set off (es.getD off .any).ab)))
     | _=>False
   | _,_=>False
 | .store m a x=>jf m (aq env a) (aq env x) H fun H'=>K env H'
 | .oz m a x=>match P.lo with | some l=>iD l m (aq env a) (aq env x) H fun H'=>K env H' | none=>False
 | .fR a s=>eF (aq env a) (get env s) H fun H'=>K ((s,(get env s).ab)::env) H'
 | .nilCheck x=>cj (aq env x) fun z=>K (put dst z env) H
 | .fieldAddr off sz x=>ap off sz (aq env x) fun z=>K (put dst z env) H
 | .field off sz x=>fz off sz (aq env x) fun z=>K (put dst z env) H
 | .indexAddr esz x i=>(∀ own xs,aq env x=.al own xs→∀ z∈xs,z.cells.length=esz)∧aC esz (aq env x) (aq env i) fun z=>K (put dst z env) H
 | .dw x i=>bQ (aq env x) (aq env i) fun z=>K (put dst z env) H
 | .eC n x i=>ch n (aq env x) (aq env i) fun z=>K (put dst z env) H
 | .qI esz x lo hi mx=>(∀ own xs,aq env x=.al own xs→∀ z∈xs,z.cells.length=esz)∧fD esz (aq env x) (gQ env lo) (gQ env hi) (gQ env mx) fun z=>z=.al esz []∧K (put dst .om env) H
 | .slice esz x lo hi mx=>bA esz (aq env x) (gQ env lo) (gQ env hi) (gQ env mx) fun z=>K (put dst z env) H
 | .copy esz d s=>kF esz (aq env d) (aq env s) H fun z H'=>K (put dst z env) H'
 | .eD x lo hi=>cA (aq env x) (gQ env lo) (gQ env hi) fun z=>K (put dst z env) H
 | .len kd x=>aO kd (aq env x)∧fg (aq env x) H fun z=>K (put dst z env) H
 | .append esz bytes s x=>bF esz bytes (aq env s) (aq env x) fun zs=>K (put dst (.al esz zs) (cQ env s.slot)) H
 | .uI esz bytes z n=>fC esz bytes z (aq env n) H fun v H'=>K (put dst v env) H'
 | .oA esz bytes n=>jQ esz bytes (aq env n) fun v=>K (put dst v env) H
 | .oB=>K (put dst (.map H.length) env) (H++[.map []])
 | .lookup kd z m k ok=>cF kd z (aq env m) (aq env k) ok H fun v=>K (put dst v env) H
 | .lJ kd m k x=>fU kd (aq env m) (aq env k) (aq env x) H fun H'=>K env H'
 | .fn f first cap=>K (put dst (.fn f (first.map fun x=>(aq env x).ab) (cap.map fun x=>(aq env x).ab)) env) H
 | .extract x i=>bM (aq env x) i fun z=>K (put dst z env) H
 | .call f args pass=>qo P (aq env f) args pass env H fun r aL H'=>K (put dst r aL) H'
 | .fm k x=>cN k (aq env x) fun z=>K (put dst z env) H
 | .iA x=>gv (aq env x) fun z=>K (put dst z env) H
 | .bytesOf x=>fF 1 (aq env x) fun z=>K (put dst z env) H
 | .strOf x=>kD (aq env x) fun z=>K (put dst z env) H
 | .mx big a b=>yZ big (aq env a) (aq env b) fun z=>K (put dst z env) H
 | .Bj esz x=>fY esz (aq env x) H fun z H'=>K (put dst z env) H'
 | .C6 esz z len ps=>bw (List.replicate len (a7 z)) esz (ps.map fun q=>(q.1,aq env q.2)) fun xs=>uP xs H fun v H'=>K (put dst v env) H'
 | .j4 esz bytes z s x=>da esz bytes z (aq env s) (aq env x) H fun v H'=>K (put dst v env) H'
 | .j5 esz bytes z s x=>match P.lo with | some l=>fH l esz bytes z (aq env s) (aq env x) H fun v H'=>K (put dst v env) H' | none=>False
 | .oC esz z x=>jn esz z (aq env x) H fun H'=>K (put dst (.tuple []) env) H'
 | .never=>False
def cB (P:Program) (e:TypeId):Option (Nat×AV):=
 match dX P e,fX P e with
 | some esz,some z=>if 0 < esz∧z.cells.length=esz∧z.val=true then some (esz,z) else none
 | _,_=>none
def w5 (P:Program) (e:TypeId):Option Nat:=(P.info? e).map (·.bytes)
def w6 (z:AV):Bool:=z.cells.all fun y=>match y with | .al own _=>own == 0 | _=>true
def lq:Option Operand→Option (Option IX)
 | none=>some none
 | some x=>(aU x).map some
def Lp (x y:Operand):Bool:=match x,y with | .tmp a,.tmp b=>a == b | .const (.int .i64 a),.const (.int .i64 b)=>a == b | _,_=>false
def cI (P:Program) (o:Oper) (fl:Nat):Option cv:=
 match o.op with
 | .move x | .assign x=>(aU x).map fun i=>.set i (fl == 1)
 | .pick c a b=>match aU c,aU a,aU b with
   | some c,some a,some b=>some (.pick c a b)
   | _,_,_=>none
 | .binOp op t x y _=>match aU x,aU y with
   | some i,some j=>match op with
     | .shl | .shr=>some (.shift op i j)
     | .eql | .neq=>match P.underlying t with
       | some .bool=>some (.jd (op matches .neq) i j)
       | some (.int _) | some .string=>some (.bin op i j)
       | some (.slice _)=>match y with | .const (.slice none 0 0)=>some (.jZ 0 (op matches .neq) i) | _=>none
       | some (.pointer _)=>match y with | .const (.pointer none)=>some (.jZ 1 (op matches .neq) i) | _=>none
       | some (.map _ _)=>match y with | .const (.map none)=>some (.jZ 2 (op matches .neq) i) | _=>none
       | some (.func _ _ _)=>match y with | .const .nilFunc=>some (.jZ 3 (op matches .neq) i) | _=>none
       | _=>none
     | _=>some (.bin op i j)
   | _,_=>none
 | .unOp op _ x=>(aU x).map fun i=>.un op i
 | .box _ x=>(aU x).map fun i=>if fl=1 then .mR i else .box i
 | .alloc e=>match fX P e with
   | some z=>if z.val=true then some (.alloc z) else none
   | none=>none
 | .build t ps=>match FM P t with
   | some (z,places)=>match fT places ps.toList with
     | some qs=>if z.val=true then some (.build z qs) else none
     | none=>none
   | none=>none
 | .buildSlice t len ps=>match P.underlying t with
   | some (.slice e)=>match cB P e,kA ps.toList with
     | some (esz,z),some qs=>if len * esz≤16777216 then some (if fl=2 then .C6 esz z len qs else .buildSlice (if fl=1 then esz else 0) esz z len qs) else none
     | _,_=>none
   | _=>none
 | .load t a=>match KN P t,aU a with
   | some sz,some i=>if fl=1 then (if sz=none then some (.eX i) else none) else if 3000 < fl then some (.uH sz (fl - 3000) i) else some (.load sz i)
   | _,_=>none
 | .store t a x=>match dX P t,aU a,aU x with
   | some m,some i,some j=>if fl=1 then (match j with | .t s=>if m=1 then some (.fR i s) else none | _=>none) else if fl=2 then some (.oz m i j) else some (.store m i j)
   | _,_,_=>none
 | .nilCheck x=>(aU x).map .nilCheck
 | .fieldAddr s x f=>match tu P s f,aU x with
   | some (off,sz),some i=>some (.fieldAddr off sz i)
   | _,_=>none
 | .field s x f=>match tu P s f,aU x with
   | some (off,sz),some i=>some (.field off sz i)
   | _,_=>none
 | .indexAddr t x i=>match P.underlying t,aU x,aU i with
   | some (.slice e),some j,some k=>(dX P e).map fun esz=>.indexAddr esz j k
   | _,_,_=>none
 | .index t x i=>match P.underlying t,aU x,aU i with
   | some .string,some j,some k=>some (.dw j k)
   | some (.array n e),some j,some k=>if KN P e=some none then some (.eC n j k) else none
   | _,_,_=>none
 | .slice t x lo hi mx=>match P.underlying t,aU x,lq lo,lq hi,lq mx with
   | some (.slice e),some i,some l,some h,some m=>match dX P e with
     | some esz=>if 0 < esz then some (if fl=4 then .qI esz i l h m else .slice esz i l h m) else none
     | none=>none
   | some .string,some i,some l,some h,some none=>some (.eD i l h)
   | _,_,_,_,_=>none
 | .makeSlice t l c=>match P.underlying t,aU c with
   | some (.slice e),some k=>match cB P e,w5 P e with
     | some (esz,z),some bytes=>if 0 < bytes∧w6 z=true then (match l with
        | .const (.int .i64 0)=>some (.oA esz bytes k)
        | _=>if Lp l c=true then some (.uI esz bytes z k) else none) else none
     | _,_=>none
   | _,_=>none
 | .makeMap _ none=>some .oB
 | .lookup t m k ok=>match P.underlying t,aU m,aU k with
   | some (.map kt et),some i,some j=>match po P kt,fX P et with
     | some kd,some z=>some (.lookup kd z i j ok)
     | _,_=>none
   | _,_,_=>none
 | .mapUpdate t m k x=>match P.underlying t,aU m,aU k,aU x with
   | some (.map kt _),some i,some j,some y=>(po P kt).map fun kd=>.lJ kd i j y
   | _,_,_,_=>none
 | .makeFunc f first cap=>match gh first.toList,gh cap.toList with
   | some i,some j=>some (.fn f i j)
   | _,_=>none
 | .extract x i=>(aU x).map fun j=>.extract j i
 | .convert src dst x=>match P.underlying src,P.underlying dst,aU x with
   | some (.int _),some (.int k),some i=>some (.fm k i)
   | some .string,some .string,some i=>some (.iA i)
   | some .string,some (.slice e),some i=>match P.underlying e with
     | some (.int .u8)=>some (.bytesOf i)
     | _=>none
   | some (.slice e),some .string,some i=>match P.underlying e with
     | some (.int .u8)=>some (.strOf i)
     | _=>none
   | _,_,_=>none
 | .call c=>match c.callee with
   | .value f=>match aU f,gh c.args.toList with
     | some i,some js=>some (.call i js (if fl=0 then none else some (fl - 1)))
     | _,_=>none
   | .builtin .len=>match c.args.toList,c.argTypes.toList with
     | [x],[t]=>match P.underlying t,aU x with
       | some .string,some i=>some (.len 0 i)
       | some (.slice _),some i=>some (.len 1 i)
       | some (.map _ _),some i=>some (.len 2 i)
       | _,_=>none
     | _,_=>none
   | .builtin .append=>match c.args.toList,c.argTypes.toList with
     | [s,x],[t,t']=>if t=t' then (match P.underlying t,aU s,aU x with
        | some (.slice e),some i,some j=>match cB P e,w5 P e with
          | some (esz,z),some bytes=>if 0 < bytes then (if fl=2 then (if w6 z=true then some (.j4 esz bytes z i j) else none) else if fl=3 then (if w6 z=true then some (.j5 esz bytes z i j) else none) else some (.append esz bytes i j)) else none
          | _,_=>none
        | _,_,_=>none) else none
     | _,_=>none
   | .builtin .max=>match c.args.toList with
     | [x,y]=>match aU x,aU y with
       | some i,some j=>some (.mx true i j)
       | _,_=>none
     | _=>none
   | .builtin .min=>match c.args.toList with
     | [x,y]=>match aU x,aU y with
       | some i,some j=>some (.mx false i j)
       | _,_=>none
     | _=>none
   | _=>none
 | _=>none
def rR (P:Program) (o:Oper):cv:=
 match o.op with
 | .call c=>match c.callee with
   | .builtin .copy=>match c.args.toList,c.argTypes.toList with
     | [s,x],[t,_]=>match P.underlying t,aU s,aU x with
        | some (.slice e),some i,some j=>match dX P e with
          | some esz=>.copy esz i j
          | none=>.never
        | _,_,_=>.never
     | _,_=>.never
   | .builtin .clear=>match c.args.toList,c.argTypes.toList with
     | [s],[t]=>match P.underlying t,aU s with
        | some (.slice e),some i=>match cB P e with
          | some (esz,z)=>.oC esz z i
          | none=>.never
        | _,_=>.never
     | _,_=>.never
   | _=>.never
 | _=>.never
def oJ (P:Program) (o:Oper):cv:=
 match o.op with
 | .move x | .assign x=>match aU x,P.underlying o.type with
   | some i,some (.slice e)=>match dX P e with
     | some esz=>.Bj esz i
     | none=>.never
   | _,_=>.never
 | _=>.never
def mi (esz:Nat) (o:Oper):cv:=
 match o.op with
 | .move x | .assign x=>match aU x with
   | some i=>.Bj esz i
   | none=>.never
 | _=>.never
def O8 (o:Oper):Bool:=match o.op with | .load _ _=>false | _=>true
def Dt (P:Program) (o:Oper) (fl:Nat):cv:=if fl=3000 then oJ P o else if 3000 < fl∧O8 o=true then mi (fl - 3000) o else (cI P o fl).getD (rR P o)
end Go.aK
end
section
namespace Go.aK
open Go
section
variable {ro:Option Nat} {P:Program} {lo:Option Nat} {A:Perm} {n:Nat} {M:Mem} {L:List Nat} {w:World} {H:List aa} {env:Env} {O:Pos→Option Nat} {a:Act} {Q:Exit→Act→World→Prop} {K:Env→List aa→Prop}
theorem bU {o:Oper} (hf:Fr A n M L w H env O a) (hd:∀ d,o.dst=some d→d < n)
 (h:∃ r z,(execOp a.eval o).run P w=.ok (.value r) w∧aW M L r z∧K (put o.dst z env) H∧∀ own xs,z=.al own xs→own=0):o.wpIn (wf ro) 0 P a w (n7 A n M L w K) Q:=by
 obtain ⟨r,z,h1,h2,h3,h4⟩:=h
 exact wp_pure hf hd h1 h2 h4 h3
theorem bb {s:Sem Value} {r:Value} {w':World} (h:s.run P w=.ok r w'):(do pure (Next.value (← s)):Sem Next).run P w=.ok (.value r) w':=by
 simp only [Sem.run_bind,h,Result.andThen_ok,Sem.run_pure]
theorem rS {s:Sem Unit} {w':World} (h:s.run P w=.ok () w'):(do s;pure Next.skip:Sem Next).run P w=.ok .skip w':=by
 simp only [Sem.run_bind,h,Result.andThen_ok,Sem.run_pure]
theorem pv {o:Oper} (hf:Fr A n M L w H env O a) (hd:∀ d,o.dst=some d→d < n) {r:Value} {z:AV} {w':World} {M':Mem} {L':List Nat} {H':List aa} (bO:(execOp a.eval o).run P w=.ok (.value r) w')
 (hr:aW M' L' r z) (hz:∀ own xs,z=.al own xs→own=0) (bX:St A M' L' w' H' (fun t=>a.tmps.getD t undef) (get env) O) (cP:Ext A M w M' w') (hL:L <+: L') (hK:K (put o.dst z env) H'):o.wpIn (wf ro) 0 P a w (n7 A n M L w K) Q:=by
 obtain ⟨O',qe⟩:=(hf.mono bX cP).ow hd hr hz
 exact dj bO ⟨M',L',H',_,O',hK,qe,cP,hL⟩
theorem w7 {o:Oper} {aL:Env} {O':Pos→Option Nat} (hf:Fr A n M L w H env O a) (hd:∀ d,o.dst=some d→d < n) {r:Value} {z:AV} {w':World} {M':Mem} {ob:Option Nat} (bO:(execOp a.eval o).run P w=.ok (.value r) w')
 (hr:aW M' L r z) (HP:bj M' w' r z ob) (bX:St A M' L w' H (fun t=>a.tmps.getD t undef) (get aL) O') (cP:Ext A M w M' w') (h1:∀ q b,ob=some b→O' q≠some b) (h2:∀ b,ob=some b→b∉L∧b < w'.heap.size∧A b) (hK:K (put o.dst z aL) H):o.wpIn (wf ro) 0 P a w (n7 A n M L w K) Q:=by
 have qe:Fr A n M' L w' H aL O' a:=⟨bX,hf.size,hf.defers.ext cP⟩
 refine dj bO ?_
 cases gR:o.dst with
 | none=>rw [gR] at hK;exact ⟨M',L,H,_,O',hK,qe,cP,aav L⟩
 | some d=>
   rw [gR] at hK
   exact ⟨M',L,H,_,_,hK,qe.FI (hd d gR) hr ob HP (fun q b hb hq=>absurd hq (h1 q b hb)) h2,cP,aav L⟩
theorem z6 {o:Oper} {x:Operand} (ho:o.op=.move x∨o.op=.assign x) {i:IX} (hc:aU x=some i) {take:Bool} (hf:Fr A n M L w H env O a) (hd:∀ d,o.dst=some d→d < n)
 (h:bC ⟨P,lo⟩ (.set i take) o.dst env H K):o.wpIn (wf ro) 0 P a w (n7 A n M L w K) Q:=by
 have bO:(execOp a.eval o).run P w=.ok (.value (a.eval x)) w:=by
  rcases ho with ho | ho <;> simp [execOp,ho]
 have hr:=hf.eval hc
 simp only [bC] at h
 cases gR:o.dst with
 | none=>
   rw [gR] at h
   refine dj bO ⟨M,L,H,env,O,h,?_,Ext.refl A M w,aav L⟩
   rw [gR];exact hf
 | some d=>
   rw [gR] at h
   have Xs:=hd d gR
   have h:K (vJ env d i take) H:=h
   unfold vJ at h
   split at h
   ·rename_i s _
    -- the list moves
    cases x with
    | tmp t=>
      have hts:t=s:=by simpa [aU] using hc
      subst hts
      have oG:=hf.st.ow t (v:=a.tmps.getD t undef) (x:=(get env t).ab) (hf.st.env t).ab (AV.bR _)
      have Xf:fW (fun t=>a.tmps.getD t undef) t (a.tmps.getD t undef)=fun t=>a.tmps.getD t undef:=by funext t';simp only [fW];split;rename_i e0;rw [e0];rfl
      rw [Xf] at oG
      have FB:Fr A n M L w H ((t,(get env t).ab)::env) (eT O (.t t) none) a:=⟨oG,hf.size,hf.defers⟩
      have uQ:=FB.FI Xs (v:=a.tmps.getD t undef) (x:=get env t) (hf.st.env t) (O (.t t)) (hf.st.iX t) (fun p b hb hp=>by
       simp only [eT] at hp
       split at hp
       ·cases hp
       ·rename_i n';exact absurd (hf.st.cz _ _ b hp hb) n') (fun b hb=>⟨hf.st.cG _ b hb,hf.st.fP _ b hb,hf.st.Oa _ b hb⟩)
      rw [← gR] at uQ
      exact dj bO ⟨M,L,H,_,_,h,uQ,Ext.refl A M w,aav L⟩
    | const v=>simp only [aU] at hc;obtain ⟨y,_,hy⟩:=yR.1 hc;cases hy
    | func f=>simp [aU] at hc
    | global g=>simp [aU] at hc
   ·have uQ:=hf.FI Xs hr.ab none (bj.free (AV.bR _)) (fun p b e=>by cases e) (fun b e=>by cases e)
    rw [← gR] at uQ
    exact dj bO ⟨M,L,H,_,_,h,uQ,Ext.refl A M w,aav L⟩
theorem w8 {o:Oper} {t:TypeId} {x:Operand} (ho:o.op=.load t x) (ht:KN P t=some none) {i:IX} (hc:aU x=some i) (hf:Fr A n M L w H env O a) (hd:∀ d,o.dst=some d→d < n)
 (h:bC ⟨P,lo⟩ (.eX i) o.dst env H K):o.wpIn (wf ro) 0 P a w (n7 A n M L w K) Q:=by
 have hr:=hf.eval hc
 simp only [bC] at h
 split at h <;> try exact h.elim
 rename_i d id off gR hx
 split at h <;> try exact h.elim
 rename_i es bn
 obtain ⟨qd,hK⟩:=h
 rw [hx] at hr
 generalize hu:a.eval x=u at hr
 cases hr with
 | ptr b _ _ hl=>
 obtain ⟨cs,e,h1,h2,h3⟩:=fS hf.st bn hl
 have hlen:=h2.length
 obtain ⟨r1,r2⟩:=eY (w:=w) (m:=0) ht
 have Bo:off < cs.toList.length:=by omega
 have hcell:=h3 off cs.toList[off] (by simp)
 have gk:=h2.getD off
 have e0:cs.toList.getD off undef=cs.toList[off]:=by rw [rB,Oq Bo];rfl
 rw [e0] at gk
 have bO:(execOp a.eval o).run P w=.ok (.value cs.toList[off]) w:=by
  simp only [execOp,ho,hu]
  exact bb (by simp only [Instr.loadAt,Instr.sureAddr,loadVar,Sem.run_bind,Sem.run_pure,Result.andThen_ok,r1,abO,if_false,run_load,hcell])
 have bX:=hf.st.Ji bn hl qd
 have FB:Fr A n M L w (H.set id (.cells (es.set off (es.getD off .any).ab))) env (eT O (.c id off) none) a:=⟨bX,hf.size,hf.defers⟩
 have HP:bj M w cs.toList[off] (es.getD off .any) (O (.c id off)):=by
  have h0:=hf.st.iT id off
  have e3:bT L w id off=cs.toList[off]:=by unfold bT;simp only [hl,hcell];rfl
  have e4:bD H id off=es.getD off .any:=by unfold bD;simp [bn]
  rwa [e3,e4] at h0
 have uQ:=FB.FI (hd d gR) gk (O (.c id off)) HP (fun p b hb hp=>by
  simp only [eT] at hp
  split at hp
  ·cases hp
  ·rename_i n';exact absurd (hf.st.cz _ _ b hp hb) n') (fun b hb=>⟨hf.st.cG _ b hb,hf.st.fP _ b hb,hf.st.Oa _ b hb⟩)
 rw [← gR] at uQ
 exact dj bO ⟨M,L,_,_,_,hK,uQ,Ext.refl A M w,aav L⟩
theorem zh {o:Oper} {t:TypeId} {x y:Operand} (ho:o.op=.store t x y) (ht:dX P t=some 1) {i:IX} {s:Nat} (hc:aU x=some i) (hy:aU y=some (.t s)) (hf:Fr A n M L w H env O a)
 (gR:o.dst=none) (h:bC ⟨P,lo⟩ (.fR i s) o.dst env H K):o.wpIn (wf ro) 0 P a w (n7 A n M L w K) Q:=by
 have hr:=hf.eval hc
 simp only [bC] at h
 have rG:y=.tmp s:=by
  cases y with
  | tmp t=>simp [aU] at hy;rw [hy]
  | const v=>simp only [aU] at hy;obtain ⟨z,_,hz⟩:=yR.1 hy;cases hz
  | func f=>simp [aU] at hy
  | global g=>simp [aU] at hy
 subst rG
 obtain ⟨w',H',O',h1,h2,h3,h4⟩:=Bp (P:=P) hf.st ht h hr s rfl rfl
 have bO:(execOp a.eval o).run P w=.ok .skip w':=by
  simp only [execOp,ho]
  exact rS h1
 have uQ:Fr A n M L w' H' ((s,(get env s).ab)::env) O' (a.put o.dst undef):=by
  rw [gR];exact ⟨h3,hf.size,hf.defers.ext h4⟩
 exact mS bO ⟨M,L,H',_,O',h2,uQ,h4,aav L⟩
theorem BC {o:Oper} {t e:TypeId} {s x:Operand} (ho:o.op=.call { callee:=.builtin .append,args:=#[s,x],argTypes:=#[t,t] }) (ht:P.underlying t=some (.slice e)) {esz bytes:Nat} {z:AV} (hz:cB P e=some (esz,z)) (hb:w5 P e=some bytes) (rF:0 < bytes)
 {i j:IX} (hi:aU s=some i) (hj:aU x=some j) (hf:Fr A n M L w H env O a) (hd:∀ d,o.dst=some d→d < n)
 (h:bC ⟨P,lo⟩ (.append esz bytes i j) o.dst env H K):o.wpIn (wf ro) 0 P a w (n7 A n M L w K) Q:=by
 simp only [bC] at h
 have vP:=hf.eval hi
 have Xt:=hf.eval hj
 unfold cB at hz
 split at hz <;> try cases hz
 rename_i esz' z' Ou mW
 split at hz <;> cases hz
 rename_i hcond
 obtain ⟨h0,eS,qk⟩:=hcond
 obtain ⟨inf,iC,di⟩:=yR.1 Ou
 obtain ⟨inf',oK,tc⟩:=yR.1 hb
 rw [iC] at oK;cases oK
 unfold fX at mW
 simp only [iC] at mW
 split at mW <;> try cases mW
 rename_i zv tw
 have v8:zv.cells.size=esz:=by have:=((cV (M:=M) (L:=L) mW).gO qk).length;rw [eS] at this;simpa using this
 have OW:match i.slot with | some d=>(fun t=>a.tmps.getD t undef) d=a.eval s∧get env d=aq env i | none=>aq env i=.ag:=by
  cases s with
  | tmp t=>simp [aU] at hi;subst hi;exact ⟨rfl,rfl⟩
  | const v=>
    simp only [aU] at hi
    obtain ⟨y,hy,rfl⟩:=yR.1 hi
    simp only [IX.slot,aq]
    have h2:=h
    simp only [aq,bF] at h2
    split at h2 <;> try exact h2.elim
    rename_i fx _
    unfold nS at fx
    split at fx
    ·rfl
    ·-- a constant is never an owned list
     exfalso
     unfold ofValue at hy
     split at hy
     ·obtain ⟨_,_,hq⟩:=yR.1 hy;cases hq
     ·unfold Xc at hy;split at hy <;> cases hy
    ·cases fx
  | func f=>
    simp [aU] at hi;subst hi
    simp only [aq,bF,nS] at h
  | global g=>simp [aU] at hi
 obtain ⟨r,w',M',O',ob,zs,g1,g2,g3,g4,g5,g6,g7,g8⟩:=Dg (P:=P) (ty:=o.type) hf.st ht iC tw di tc v8 h0 rF h i.slot vP OW Xt
 have bO:(execOp a.eval o).run P w=.ok (.value r) w':=by
  simp only [execOp,ho,resolve,invoke,builtin,Sem.run_bind,Sem.run_pure,Result.andThen_ok,acC,List.map_cons,List.map_nil,g1]
 have FH:lL (get env) i.slot=get (cQ env i.slot):=by
  cases i.slot with
  | none=>rfl
  | some d=>rfl
 rw [FH] at g5
 exact w7 hf hd bO g3 g4 g5 g6 g7 g8 g2
theorem zi {o:Oper} {t e:TypeId} {s x:Operand} (ho:o.op=.call { callee:=.builtin .append,args:=#[s,x],argTypes:=#[t,t] }) (ht:P.underlying t=some (.slice e)) {esz bytes:Nat} {z:AV} (hz:cB P e=some (esz,z)) (hb:w5 P e=some bytes) (rF:0 < bytes) (BD:w6 z=true)
 {i j:IX} (hi:aU s=some i) (hj:aU x=some j) (hf:Fr A n M L w H env O a) (hd:∀ d,o.dst=some d→d < n)
 (h:bC ⟨P,lo⟩ (.j4 esz bytes z i j) o.dst env H K):o.wpIn (wf ro) 0 P a w (n7 A n M L w K) Q:=by
 simp only [bC] at h
 have vP:=hf.eval hi
 have Xt:=hf.eval hj
 unfold cB at hz
 split at hz <;> try cases hz
 rename_i esz' z' Ou mW
 split at hz <;> cases hz
 rename_i hcond
 obtain ⟨h0,eS,qk⟩:=hcond
 obtain ⟨inf,iC,di⟩:=yR.1 Ou
 obtain ⟨inf',oK,tc⟩:=yR.1 hb
 rw [iC] at oK;cases oK
 unfold fX at mW
 simp only [iC] at mW
 split at mW <;> try cases mW
 rename_i zv tw
 have Di:∀ y∈z.cells,∀ own xs,y=.al own xs→own=0:=by
  intro y hy own xs e
  have:=abF.1 BD y hy
  subst e
  simpa using this
 obtain ⟨r,y,L',w',H',O',g1,g2,g3,g4,g5,g6,g7⟩:=BA (P:=P) (ty:=o.type) hf.st ht iC tw di tc h0 rF mW qk eS Di h vP Xt
 have bO:(execOp a.eval o).run P w=.ok (.value r) w':=by
  simp only [execOp,ho,resolve,invoke,builtin,Sem.run_bind,Sem.run_pure,Result.andThen_ok,acC,List.map_cons,List.map_nil,g1]
 have FB:Fr A n M L' w' H' env O' a:=⟨g5,hf.size,hf.defers.ext g6⟩
 obtain ⟨O'',qe⟩:=FB.ow hd g2 g3
 exact dj bO ⟨M,L',H',_,O'',g4,qe,g6,g7⟩
theorem zj {o:Oper} {t e:TypeId} {s x:Operand} (ho:o.op=.call { callee:=.builtin .append,args:=#[s,x],argTypes:=#[t,t] }) (ht:P.underlying t=some (.slice e)) {esz bytes:Nat} {z:AV} (hz:cB P e=some (esz,z)) (hb:w5 P e=some bytes) (rF:0 < bytes) (BD:w6 z=true)
 {i j:IX} (hi:aU s=some i) (hj:aU x=some j) (hf:Fr A n M L w H env O a) (hd:∀ d,o.dst=some d→d < n)
 (hp:∀ l,lo=some l→∀ id,l≤id→A.top id=none) (h:bC ⟨P,lo⟩ (.j5 esz bytes z i j) o.dst env H K):o.wpIn (wf ro) 0 P a w (n7 A n M L w K) Q:=by
 simp only [bC] at h
 split at h <;> try exact h.elim
 rename_i l
 have vP:=hf.eval hi
 have Xt:=hf.eval hj
 unfold cB at hz
 split at hz <;> try cases hz
 rename_i esz' z' Ou mW
 split at hz <;> cases hz
 rename_i hcond
 obtain ⟨h0,eS,qk⟩:=hcond
 obtain ⟨inf,iC,di⟩:=yR.1 Ou
 obtain ⟨inf',oK,tc⟩:=yR.1 hb
 rw [iC] at oK;cases oK
 unfold fX at mW
 simp only [iC] at mW
 split at mW <;> try cases mW
 rename_i zv tw
 have Di:∀ y∈z.cells,∀ own xs,y=.al own xs→own=0:=by
  intro y hy own xs e
  have:=abF.1 BD y hy
  subst e
  simpa using this
 obtain ⟨r,y,L',w',H',O',g1,g2,g3,g4,g5,g6,g7⟩:=BB (P:=P) (ty:=o.type) (hp l rfl) hf.st ht iC tw di tc h0 rF mW qk eS Di h vP Xt
 have bO:(execOp a.eval o).run P w=.ok (.value r) w':=by
  simp only [execOp,ho,resolve,invoke,builtin,Sem.run_bind,Sem.run_pure,Result.andThen_ok,acC,List.map_cons,List.map_nil,g1]
 have FB:Fr A n M L' w' H' env O' a:=⟨g5,hf.size,hf.defers.ext g6⟩
 obtain ⟨O'',qe⟩:=FB.ow hd g2 g3
 exact dj bO ⟨M,L',H',_,O'',g4,qe,g6,g7⟩
theorem HW:∀ {xs ys:List AV},z5 xs ys→xs.length=ys.length∧∀ t,(xs.getD t .any).le (ys.getD t .any)
 | [],[],_=>⟨rfl,fun t=>.inl rfl⟩
 | [],_::_,h=>h.elim
 | _::_,[],h=>h.elim
 | x::xs,y::ys,h=>by
   obtain ⟨h1,h2⟩:=h
   obtain ⟨i1,i2⟩:=HW h2
   refine ⟨by simp [i1],fun t=>?_⟩
   cases t with
   | zero=>simpa using h1
   | succ t=>simpa using i2 t
theorem dR (env:Env) (pass:Option Nat):∀ (j:Nat) (xs:List IX),(aN env pass j xs).length=xs.length
 | _,[]=>rfl
 | j,.t s::xs=>by simp [aN,dR env pass (j + 1) xs]
 | j,.c v::xs=>by simp [aN,dR env pass (j + 1) xs]
theorem ke (hf:Fr A n M L w H env O a) (pass:Option Nat):∀ {xs:List Operand} {is:List IX} (j:Nat),gh xs=some is→aP M L (xs.map a.eval) (aN env pass j is)
 | [],is,j,hc=>by simp [gh] at hc;subst hc;exact .nil
 | x::xs,is,j,hc=>by
   unfold gh at hc
   split at hc
   ·rename_i i is' h1 h2
    cases hc
    have hr:=hf.eval h1
    cases i with
    | t s=>
      refine .cons _ _ _ _ ?_ (ke hf pass (j + 1) h2)
      split
      ·exact hr
      ·exact hr.ab
    | c v=>exact .cons _ _ _ _ hr.ab (ke hf pass (j + 1) h2)
   ·cases hc
def dI (A:Perm) (loose:Bool) (H:List aa) (L:List Nat) (O:Pos→Option Nat) (w:World):Perm where
 wr:=fun b=>b∈L∨(∃ p,O p=some b)∨w.heap.size≤b
 top:=fun id=>if id < H.length then some (A.iS H.length id) else if loose=true then none else some (id + 1)
 ok:=by
  intro id n h
  split at h
  ·rename_i h1
   cases h
   have:=A.lI h1
   omega
  ·split at h
   ·cases h
   ·cases h;omega
theorem lP (A:Perm) (loose:Bool) (H:List aa) (L:List Nat) (O:Pos→Option Nat) (w:World):(dI A loose H L O w).entry loose H.length:=
 ⟨fun id h=>⟨A.iS H.length id,A.wM _ _,by simp only [dI,if_pos h]⟩,fun id h=>by simp only [dI];rw [if_neg (by omega)]⟩
theorem uR (A:Perm) (loose:Bool) (H:List aa) (L:List Nat) (O:Pos→Option Nat) (w:World) {id:Nat} (h:id < H.length) (len:Nat):(dI A loose H L O w).iS len id=min (A.iS H.length id) len:=by
 unfold Perm.iS
 simp only [dI,if_pos h]
 rfl
theorem St.narrow {ev:Nat→Value} {ea:Nat→AV} (loose:Bool) (h:St A M L w H ev ea O):St (dI A loose H L O w) M L w H ev ea O:=
 { len:=h.len,nodup:=h.nodup,env:=h.env,mem:=h.mem,obj:=h.obj,lt:=h.lt,iX:=h.iX,iT:=h.iT,cz:=h.cz,cG:=h.cG,fP:=h.fP,
   bI:=fun id o ho=>by
    rw [uR A loose H L O w (aR ho),Nat.min_eq_left (A.wM _ _)]
    exact h.bI id o ho
   La:=fun b hb=>.inl hb,Oa:=fun p b hp=>.inr (.inl ⟨p,hp⟩),fresh:=fun b hb=>.inr (.inr hb) }
theorem St.rT {ev:Nat→Value} {ea:Nat→AV} (h:St A M L w H ev ea O) (ev':Nat→Value) (ea':Nat→AV) (hr:∀ t,aW M L (ev' t) (ea' t)) (hx:∀ t own xs,ea' t=.al own xs→own=0) :
 St A M L w H ev' ea' (fun p=>match p with | .t _=>none | .c id j=>O (.c id j)):=by
 have hO:∀ (p:Pos) (b:Nat),(match p with | .t _=>none | .c id j=>O (.c id j))=some b→O p=some b:=by
  intro p b hp
  cases p with
  | t t=>cases hp
  | c id j=>exact hp
 exact { len:=h.len,nodup:=h.nodup,env:=hr,mem:=h.mem,obj:=h.obj,bI:=h.bI,lt:=h.lt,iX:=fun t=>bj.free (hx t),iT:=h.iT,cz:=fun p q b hp hq=>h.cz p q b (hO p b hp) (hO q b hq),
         cG:=fun p b hp=>h.cG p b (hO p b hp),fP:=fun p b hp=>h.fP p b (hO p b hp),La:=h.La,Oa:=fun p b hp=>h.Oa p b (hO p b hp),fresh:=h.fresh }
theorem St.Jq {ev:Nat→Value} {ea:Nat→AV} (h:St A M L w H ev ea O) {Oc:Pos→Option Nat} (pt:Option Nat) (loose:Bool) (vL:loose=true→∀ id,H.length≤id→A.top id=none) (hOc:∀ b,(∃ p,Oc p=some b)→(∃ id j,O (.c id j)=some b)∨∃ s,pt=some s∧O (.t s)=some b)
 {M':Mem} {L':List Nat} {w':World} {H':List aa} {v:Value} {r:AV} {O':Pos→Option Nat}
 (h':St (dI A loose H L Oc w) M' L' w' H' (fW (fun _=>undef) 0 v) (fW (fun _=>.any) 0 r) O') (cP:Ext (dI A loose H L Oc w) M w M' w') (hL:L <+: L') :
 ∃ O'',St A M' L' w' H' ev (lL ea pt) O''∧Ext A M w M' w'∧aW M' L' v r∧bj M' w' v r (O' (.t 0))∧(∀ q b,O' (.t 0)=some b→O'' q≠some b)∧(∀ b,O' (.t 0)=some b→b∉L'∧b < w'.heap.size∧A b):=by
 have hlen:H.length≤H'.length:=by
  have:=hL.length_le
  rw [h.len,h'.len] at this
  exact this
 have hAc:∀ b,dI A loose H L Oc w b→A b:=by
  rintro b (hb | hb | hb)
  ·exact h.La b hb
  ·rcases hOc b hb with ⟨id,j,hq⟩ | ⟨s,_,hq⟩
   ·exact h.Oa _ b hq
   ·exact h.Oa _ b hq
  ·exact h.fresh b hb
 let O'':Pos→Option Nat:=fun p=>match p with
  | .t i=>if pt=some i then none else O (.t i)
  | .c id j=>O' (.c id j)
 -- what the caller keeps is not the callee's to write
 have ky:∀ i b,pt≠some i→O (.t i)=some b→¬ dI A loose H L Oc w b:=by
  rintro i b hi hb (hc | hc | hc)
  ·exact h.cG _ b hb hc
  ·rcases hOc b hc with ⟨id,j,hq⟩ | ⟨s,hs,hq⟩
   ·have:=h.cz _ _ b hb hq;cases this
   ·have:=h.cz _ _ b hb hq;cases this;exact hi hs
  ·have:=h.fP _ b hb;omega
 have Jr:∀ i b,O'' (.t i)=some b→pt≠some i∧O (.t i)=some b:=by
  intro i b hb
  simp only [O''] at hb
  split at hb
  ·cases hb
  ·rename_i hi;exact ⟨hi,hb⟩
 have TC:∀ i b p,O'' (.t i)=some b→O' p≠some b:=by
  intro i b p hb hp
  obtain ⟨h1,h2⟩:=Jr i b hb
  exact ky i b h1 h2 (h'.Oa p b hp)
 refine ⟨O'',{ len:=h'.len,nodup:=h'.nodup,env:=?_,mem:=h'.mem,obj:=h'.obj,bI:=?_,lt:=h'.lt,iX:=?_,iT:=h'.iT,cz:=?_,cG:=?_,fP:=?_,La:=fun b hb=>hAc b (h'.La b hb),Oa:=?_,fresh:=fun b hb=>h.fresh b (abX cP.size hb) },?_,?_,?_,?_,?_⟩
 ·intro t
  have:=(h.env t).mono cP.mc hL
  cases pt with
  | none=>exact this
  | some d=>
    simp only [lL,fW]
    split
    ·rename_i e0;subst e0;exact this.ab
    ·exact this
 ·intro id o ho
  have h1:=h'.bI id o ho
  have hl:=aR ho
  by_cases e:id < H.length
  ·rw [uR A loose H L Oc w e] at h1
   exact aa.cM (abX (aeF _ _) (A.C4 hlen id)) o h1
  ·by_cases hx:loose=true
   ·have e1:A.iS H'.length id=H'.length:=by unfold Perm.iS;rw [vL hx id (by omega)]
    rw [e1]
    exact aa.cM (Perm.wM _ _ _) o h1
   ·have e1:(dI A loose H L Oc w).iS H'.length id=min (id + 1) H'.length:=by
     unfold Perm.iS
     simp only [dI,if_neg e,if_neg hx]
    rw [e1] at h1
    exact aa.cM (abX (aeF _ _) (A.lI hl)) o h1
 ·intro t
  have h1:=h.iX t
  cases pt with
  | none=>
    exact h1.mono fun b hb=>cP.ky b (h.fP _ b hb) (ky t b (by simp) hb)
  | some d=>
    simp only [lL,fW,O'']
    by_cases e0:t=d
    ·subst e0
     simp only [if_true]
     exact bj.free (AV.bR _)
    ·have:¬ (some d=some t):=fun e=>e0 (by cases e;rfl)
     simp only [e0,this,if_false]
     exact h1.mono fun b hb=>cP.ky b (h.fP _ b hb) (ky t b this hb)
 ·intro p q b hp hq
  cases p with
  | t i=>
    cases q with
    | t j=>exact h.cz _ _ b (Jr i b hp).2 (Jr j b hq).2
    | c id j=>exact absurd hq (TC i b _ hp)
  | c id j=>
    cases q with
    | t i=>exact absurd hp (TC i b _ hq)
    | c id' j'=>exact h'.cz _ _ b hp hq
 ·intro p b hp hm
  cases p with
  | t i=>exact ky i b (Jr i b hp).1 (Jr i b hp).2 (h'.La b hm)
  | c id j=>exact h'.cG _ b hp hm
 ·intro p b hp
  cases p with
  | t i=>exact adf (h.fP _ b (Jr i b hp).2) cP.size
  | c id j=>exact h'.fP _ b hp
 ·intro p b hp
  cases p with
  | t i=>exact h.Oa _ b (Jr i b hp).2
  | c id j=>exact hAc b (h'.Oa _ b hp)
 ·exact ⟨cP.mc,cP.size,cP.os,cP.tape,cP.output,fun b hb hA=>cP.ky b hb (fun hc=>hA (hAc b hc)),cP.loops⟩
 ·simpa [fW] using h'.env 0
 ·simpa [fW] using h'.iX 0
 ·intro q b hb hq
  cases q with
  | t i=>exact TC i b _ hq hb
  | c id j=>have:=h'.cz _ _ b hb hq;cases this
 ·intro b hb
  exact ⟨h'.cG _ b hb,h'.fP _ b hb,hAc b (h'.Oa _ b hb)⟩
theorem gA (env:Env):∀ (xs:List IX) (j t:Nat),(aN env none j xs).getD t .any=(match xs[t]? with | some x=>(aq env x).ab | none=>.any)
 | [],j,t=>by simp [aN]
 | .t s::xs,j,0=>by simp [aN,aq]
 | .c v::xs,j,0=>by simp [aN,aq]
 | .t s::xs,j,t + 1=>by
   simp only [aN,List.getD_cons_succ,List.getElem?_cons_succ]
   exact gA env xs (j + 1) t
 | .c v::xs,j,t + 1=>by
   simp only [aN,List.getD_cons_succ,List.getElem?_cons_succ]
   exact gA env xs (j + 1) t
theorem gC (env:Env) (k:Nat):∀ (xs:List IX) (j t:Nat),(aN env (some k) j xs).getD t .any=(match xs[t]? with | some (.t s)=>if k=j + t then get env s else (get env s).ab | some (.c v)=>v.ab | none=>.any)
 | [],j,t=>by simp [aN]
 | .t s::xs,j,0=>by simp [aN]
 | .c v::xs,j,0=>by simp [aN]
 | .t s::xs,j,t + 1=>by
   simp only [aN,List.getD_cons_succ,List.getElem?_cons_succ]
   rw [gC env k xs (j + 1) t,show j + 1 + t=j + (t + 1) by omega]
 | .c v::xs,j,t + 1=>by
   simp only [aN,List.getD_cons_succ,List.getElem?_cons_succ]
   rw [gC env k xs (j + 1) t,show j + 1 + t=j + (t + 1) by omega]
theorem rU (vs:List Value) (t:Nat):vs.toArray.getD t undef=vs.getD t undef:=by
 simp [rB]
theorem mj (xs ys zs:List AV) (t:Nat):(xs++ys++zs).getD t .any=if t < xs.length then xs.getD t .any else if t < xs.length + ys.length then ys.getD (t - xs.length) .any else zs.getD (t - xs.length - ys.length) .any:=by
 simp only [rB,aei,aaf]
 by_cases h1:t < xs.length
 ·rw [if_pos (by omega),if_pos h1,if_pos h1]
 ·by_cases h2:t < xs.length + ys.length
  ·rw [if_pos h2,if_neg h1,if_neg h1,if_pos h2]
  ·rw [if_neg h2,if_neg h1,if_neg h2,Nat.sub_sub]
theorem tB {o:Oper} {xs:List Operand} {js:List IX} (WO:gh xs=some js) {pass:Option Nat} {fs cs:List Value} {first cap:List AV} (qp:aP M L fs first) (oq:aP M L cs cap) {bZ:List AV}
 (hle:z5 (first.map AV.ab++aN env pass 0 js++cap.map AV.ab) bZ) (hf:Fr A n M L w H env O a) (hd:∀ d,o.dst=some d→d < n) {loose:Bool} (vL:loose=true→∀ id,H.length≤id→A.top id=none) :
 ∃ Oc,(fs++xs.map a.eval++cs).length=bZ.length∧St (dI A loose H L Oc w) M L w H (fun t=>(fs++xs.map a.eval++cs).toArray.getD t undef) (fun t=>bZ.getD t .any) Oc∧
  ∀ (v:Value) (r:AV) (H':List aa) (M':Mem) (L':List Nat) (O':Pos→Option Nat) (w':World),K (put o.dst r (cQ env (bh js pass))) H'→St (dI A loose H L Oc w) M' L' w' H' (fW (fun _=>undef) 0 v) (fW (fun _=>.any) 0 r) O'→Ext (dI A loose H L Oc w) M w M' w'→L <+: L'→
   n7 A n M L w K (a.put o.dst v) w':=by
 have hrb:=ke hf pass 0 WO
 have acw:=ke hf none 0 WO
 obtain ⟨hlen,acx⟩:=HW hle
 obtain ⟨vs,zc⟩:∃ vs:List Value,vs=fs++xs.map a.eval++cs:=⟨_,rfl⟩
 have hrv:aP M L vs (first.map AV.ab++aN env pass 0 js++cap.map AV.ab):=by rw [zc];exact (qp.dn.append hrb).append oq.dn
 have acy:aP M L vs (first.map AV.ab++aN env none 0 js++cap.map AV.ab):=by rw [zc];exact (qp.dn.append acw).append oq.dn
 have rN:vs.length=bZ.length:=by rw [hrv.length];exact hlen
 -- the callee's state
 have acz:∃ Oc,St A M L w H (fun t=>vs.toArray.getD t undef) (fun t=>bZ.getD t .any) Oc∧(∀ b,(∃ p,Oc p=some b)→(∃ id j,O (.c id j)=some b)∨∃ s,bh js pass=some s∧O (.t s)=some b):=by
  have hfree:∀ t own zs,(first.map AV.ab++aN env none 0 js++cap.map AV.ab).getD t .any=.al own zs→own=0:=by
   intro t own zs he
   have hm:∀ (l:List AV) q,(l.map AV.ab).getD q .any=.al own zs→own=0:=by
    intro l q hq
    rw [rB,abW] at hq
    cases hx:l[q]? with
    | none=>simp [hx] at hq
    | some y=>simp [hx] at hq;exact AV.bR y own zs hq
   rw [mj] at he
   split at he
   ·exact hm _ _ he
   ·split at he
    ·rw [gA] at he
     split at he
     ·exact AV.bR _ own zs he
     ·cases he
    ·exact hm _ _ he
  have h0:=hf.st.rT (fun t=>vs.toArray.getD t undef) (fun t=>(first.map AV.ab++aN env none 0 js++cap.map AV.ab).getD t .any) (fun t=>by rw [rU];exact acy.getD t) hfree
  -- then the one that is handed over
  have h1:∃ O1,St A M L w H (fun t=>vs.toArray.getD t undef) (fun t=>(first.map AV.ab++aN env pass 0 js++cap.map AV.ab).getD t .any) O1∧(∀ b,(∃ p,O1 p=some b)→(∃ id j,O (.c id j)=some b)∨∃ s,bh js pass=some s∧O (.t s)=some b):=by
   cases rH:bh js pass with
   | none=>
     refine ⟨_,h0.congr (fun _=>rfl) (fun t=>?_),?_⟩
     ·rw [mj,mj,dR,dR]
      split
      ·rfl
      ·split
       ·cases pass with
        | none=>rfl
        | some k=>
          rw [gA,gC]
          unfold bh at rH
          simp only at rH
          cases hx:js[t - (first.map AV.ab).length]? with
          | none=>rfl
          | some x=>
            cases x with
            | c v=>rfl
            | t s=>
              simp only
              rw [if_neg]
              ·rfl
              ·intro e
               rw [abM] at e
               rw [e,hx] at rH
               simp at rH
       ·rfl
     ·rintro b ⟨p,hp⟩
      cases p with
      | t t=>cases hp
      | c id j=>exact .inl ⟨id,j,hp⟩
   | some s=>
     -- where it stands
     obtain ⟨k,rfl,R6⟩:∃ k,pass=some k∧js[k]?=some (.t s):=by
      unfold bh at rH
      split at rH
      ·rename_i k
       split at rH
       ·rename_i s' TD;cases rH;exact ⟨k,rfl,TD⟩
       ·cases rH
      ·cases rH
     have FY:k < js.length:=aR R6
     have hargs:∀ (xs:List Operand) (is:List IX),gh xs=some is→∀ (q s:Nat),is[q]?=some (IX.t s)→xs[q]?=some (Operand.tmp s):=by
      intro xs
      induction xs with
      | nil=>intro is hc q s hq;simp [gh] at hc;subst hc;simp at hq
      | cons x xs ih=>
        intro is hc q s hq
        unfold gh at hc
        split at hc
        ·rename_i i is' e1 e2
         cases hc
         cases q with
         | zero=>
           simp at hq;subst hq
           cases x with
           | tmp t=>simp [aU] at e1;simp [e1]
           | const v=>simp only [aU] at e1;obtain ⟨_,_,hz⟩:=yR.1 e1;cases hz
           | func f=>simp [aU] at e1
           | global g=>simp [aU] at e1
         | succ q=>simpa using ih is' e2 q s (by simpa using hq)
        ·cases hc
     have db:=hargs _ _ WO k s R6
     have n8:vs[first.length + k]?=some (a.tmps.getD s undef):=by
      have O4:fs.length=first.length:=qp.length
      rw [zc]
      rw [abb,abt (by omega),O4,show first.length + k - first.length=k by omega,yO (by simpa using aR db),abW,db]
      rfl
     have oG:=h0.put (first.length + k) (v:=a.tmps.getD s undef) (x:=get env s) (hf.st.env s) (O (.t s)) (hf.st.iX s) (fun p b hb hp=>by
      cases p with
      | t t=>cases hp
      | c id j=>have:=hf.st.cz _ _ b hb hp;cases this) (fun b hb=>⟨hf.st.cG _ b hb,hf.st.fP _ b hb,hf.st.Oa _ b hb⟩)
     refine ⟨_,oG.congr (fun t=>?_) (fun t=>?_),?_⟩
     ·simp only [fW]
      split
      ·rename_i e;subst e
       rw [rU,rB,n8];rfl
      ·rfl
     ·simp only [fW]
      rw [mj,mj,dR,dR]
      simp only [ace]
      by_cases e:t=first.length + k
      ·subst e
       rw [if_pos rfl,if_neg (by omega),if_pos (by omega),show first.length + k - first.length=k by omega,gC,R6]
       simp
      ·rw [if_neg e]
       split
       ·rfl
       ·split
        ·rw [gA,gC]
         cases hx:js[t - first.length]? with
         | none=>rfl
         | some x=>
           cases x with
           | c v=>rfl
           | t s=>
             simp only
             rw [if_neg (by omega)]
             rfl
        ·rfl
     ·rintro b ⟨p,hp⟩
      simp only [eT] at hp
      split at hp
      ·exact .inr ⟨s,rfl,hp⟩
      ·cases p with
       | t t=>cases hp
       | c id j=>exact .inl ⟨id,j,hp⟩
  obtain ⟨O1,g1,g2⟩:=h1
  obtain ⟨O2,g3,g4⟩:=g1.HQ (ea':=fun t=>bZ.getD t .any) acx
  exact ⟨O2,g3,fun b ⟨p,hp⟩=>g2 b ⟨p,g4 p b hp⟩⟩
 obtain ⟨Oc,bX,hOc⟩:=acz
 refine ⟨Oc,by rw [← zc];exact rN,by rw [← zc];exact bX.narrow loose,?_⟩
 intro v r H' M' L' O' w' hK mX cP hL
 obtain ⟨O'',k1,k2,k3,k4,k5,k6⟩:=hf.st.Jq (bh js pass) loose vL hOc mX cP hL
 have FH:lL (get env) (bh js pass)=get (cQ env (bh js pass)):=by
  cases bh js pass <;> rfl
 rw [FH] at k1
 have qe:Fr A n M' L' w' H' (cQ env (bh js pass)) O'' a:=⟨k1,hf.size,hf.defers.ext k2⟩
 show n7 A n M L w K (a.put o.dst v) w'
 cases gR:o.dst with
 | none=>rw [gR] at hK;exact ⟨M',L',H',_,O'',hK,qe,k2,hL⟩
 | some d=>
   rw [gR] at hK
   exact ⟨M',L',H',_,_,hK,qe.FI (hd d gR) k3 (O' (.t 0)) k4 (fun q b hb hq=>absurd hq (k5 q b hb)) k6,k2,hL⟩
theorem FZ {o:Oper} {c:Call} (ho:o.op=.call c) {f:Operand} (n9:c.callee=.value f) {i:IX} {js:List IX} (tC:aU f=some i) (WO:gh c.args.toList=some js) {pass:Option Nat}
 (hp:∀ l,lo=some l→∀ id,l≤id→A.top id=none) (hf:Fr A n M L w H env O a) (hd:∀ d,o.dst=some d→d < n) (h:bC ⟨P,lo⟩ (.call i js pass) o.dst env H K):o.wpIn (wf ro) 0 P a w (n7 A n M L w K) Q:=by
 simp only [bC] at h
 have Ov:=hf.eval tC
 unfold qo at h
 split at h <;> try exact h.elim
 ·rename_i g first cap Xu
  obtain ⟨bZ,hle,hcall⟩:=h
  rw [Xu] at Ov
  generalize hu:a.eval f=u at Ov
  cases Ov with
  | fn _ fs cs _ _ qp oq=>
  obtain ⟨loose,vL,hcall⟩:∃ loose:Bool,(loose=true→∀ id,H.length≤id→A.top id=none)∧lO loose P g bZ H fun r H'=>K (put o.dst r (cQ env (bh js pass))) H':=by
   unfold dO at hcall
   split at hcall
   ·exact ⟨false,by simp,hcall⟩
   ·rename_i l hl
    rcases hcall with hcall | ⟨h1,hcall⟩
    ·exact ⟨false,by simp,hcall⟩
    ·exact ⟨true,fun _ id bn=>hp l hl id (by omega),hcall⟩
  obtain ⟨Oc,rN,bX,fin⟩:=tB (K:=K) (o:=o) WO qp oq hle hf hd vL
  obtain ⟨vs,zc⟩:∃ vs:List Value,vs=fs++c.args.toList.map a.eval++cs:=⟨_,rfl⟩
  rw [← zc] at rN bX
  have bO:(execOp a.eval o).run P w=(callFunc g vs.toArray).run P w:=by
   simp only [execOp,ho,resolve,n9,Deferred.ofValue,hu,invoke,Sem.run_bind,Sem.run_pure,Result.andThen_ok]
   have e1:(fs.toArray++c.args.map a.eval++cs.toArray)=vs.toArray:=by
    apply Array.ext';simp [zc]
   rw [e1]
  rcases hcall (dI A loose H L Oc w) M L w vs.toArray Oc (lP A loose H L Oc w) (by simpa using rN) bX with ⟨h1,hc⟩ | ⟨v,w',r,H',M',L',O',h1,hK,mX,cP,hL⟩
  ·refine mf (bO.trans h1) (by intro d e;cases e) ⟨(fun h=>by cases h),?_⟩
   have mW:CallsIn (wf ro) (0 - 1) P g vs.toArray w _:=callsIn_wide.2 hc
   refine CallsIn.mono mW fun e w' he=>?_
   obtain ⟨v,r,H',M',L',O',rfl,hK,mX,cP,hL⟩:=he
   exact fin v r H' M' L' O' w' hK mX cP hL
  ·exact dj (bO.trans h1) (fin v r H' M' L' O' w' hK mX cP hL)
 ·rename_i id Xu
  obtain ⟨bZ,hle,hcall⟩:=h
  rw [Xu] at Ov
  generalize hu:a.eval f=u at Ov
  cases Ov with
  | ou b _ hl=>
  obtain ⟨loose,vL,hcall⟩:∃ loose:Bool,(loose=true→∀ id,H.length≤id→A.top id=none)∧fV loose P id bZ H fun r H'=>K (put o.dst r (cQ env (bh js pass))) H':=by
   unfold mZ at hcall
   split at hcall
   ·exact ⟨false,by simp,hcall⟩
   ·rename_i l hl
    rcases hcall with hcall | ⟨h1,hcall⟩
    ·exact ⟨false,by simp,hcall⟩
    ·exact ⟨true,fun _ id bn=>hp l hl id (by omega),hcall⟩
  obtain ⟨Oc,rN,bX,fin⟩:=tB (K:=K) (o:=o) (fs:=[]) (cs:=[]) (first:=[]) (cap:=[]) WO .nil .nil (by simpa using hle) hf hd vL
  simp only [List.nil_append,abQ] at rN bX
  obtain ⟨fn,tmps,as,bd,h1,h2⟩:=hcall (dI A loose H L Oc w) M L w (c.args.toList.map a.eval).toArray Oc b (lP A loose H L Oc w) (by simpa using rN) hl bX
  have bO:(execOp a.eval o).run P w=.ok (.round b fn tmps as bd) w:=by
   simp only [execOp,ho,resolve,n9,Deferred.ofValue,hu,invoke,Sem.run_bind,Sem.run_pure,Result.andThen_ok]
   have e1:(#[]++c.args.map a.eval:Array Value)=(c.args.toList.map a.eval).toArray:=by
    apply Array.ext';simp
   rw [e1]
   exact h1
  refine mf bO (by intro d e;cases e) ⟨(fun h=>by cases h),?_⟩
  have mW:RoundIn (wf ro) (0 - 1) P b fn tmps as bd w _:=h2
  refine RoundIn.mono mW fun e w' he=>?_
  obtain ⟨v,r,H',M',L',O',rfl,hK,mX,cP,hL⟩:=he
  exact fin v r H' M' L' O' w' hK mX cP hL
end
end Go.aK
end
section
namespace Go.aK
open Go
section
variable {ro:Option Nat} {P:Program} {lo:Option Nat} {A:Perm} {n:Nat} {M:Mem} {L:List Nat} {w:World} {H:List aa} {env:Env} {O:Pos→Option Nat} {a:Act} {Q:Exit→Act→World→Prop} {K:Env→List aa→Prop}
theorem pw {x:AV} {φ:Bool→Prop} (h:fy x φ):∃ b,x=.bool b∧φ b:=by
 unfold fy at h
 split at h
 ·exact ⟨_,rfl,h⟩
 ·exact h.elim
def iY (kd:Nat):Value:=match kd with | 0=>.slice none 0 0 | 1=>.pointer none | 2=>.map none | _=>.nilFunc
def rV (kd:Nat) (D:TypeDesc):Bool:=match kd,D with | 0,.slice _=>true | 1,.pointer _=>true | 2,.map _ _=>true | 3,.func _ _ _=>true | _,_=>false
theorem vQ {d kd:Nat} {t:TypeId} {D:TypeDesc} (ht:P.underlying t=some D) (hD:rV kd D=true) {u:Value} {x:AV} {b:Bool} (hx:isNil kd x=some b) (hu:aW M L u x):(Op.equalIn (d + 1) t u (iY kd)).run P w=.ok b w:=by
 unfold isNil at hx
 split at hx <;> cases hx <;> cases D <;> simp [rV] at hD <;> cases hu <;> simp [Op.equalIn,run_underlying ht,iY]
theorem w9 {kd:Nat} {neq:Bool} {t:TypeId} {D:TypeDesc} (ht:P.underlying t=some D) (hD:rV kd D=true) {u:Value} {x:AV} {φ:AV→Prop} (h:dz kd neq x φ) (hu:aW M L u x) (X Y:Operand) :
 ∃ r z,(do eqGuard (if neq then .neq else .eql) t X Y u (iY kd);binOp (if neq then .neq else .eql) t u (iY kd):Sem Value).run P w=.ok r w∧aW M L r z∧φ z∧∀ own xs,z=.al own xs→own=0:=by
 unfold dz at h
 split at h
 rotate_left
 ·split at h <;> try exact h.elim
  cases hu with
  | al b off c own e cs xs he hx hn hle hc hr hm=>simp at hn
  | iw ad c own hc=>
    have hDs:∃ e,D=.slice e:=by
     cases D <;> simp [rV] at hD
     exact ⟨_,rfl⟩
    obtain ⟨e,rfl⟩:=hDs
    have he0:∀ d,(Op.equalIn (d + 1) t (.slice ad 0 c) (iY 0)).run P w=.ok (ad.isNone) w:=by
     intro d
     cases ad <;> simp [Op.equalIn,run_underlying ht,iY]
    have he:(Op.equal t (.slice ad 0 c) (iY 0)).run P w=.ok (ad.isNone) w:=he0 9999
    have hg:∀ op,(eqGuard op t X Y (.slice ad 0 c) (iY 0)).run P w=.ok () w:=by
     intro op
     unfold eqGuard;cases op <;> rfl
    have h1:binOp .eql t (.slice ad 0 c) (iY 0)=(Op.equal t (.slice ad 0 c) (iY 0) >>= fun q=>(pure (.bool q):Sem Value)):=rfl
    have h2:binOp .neq t (.slice ad 0 c) (iY 0)=(Op.equal t (.slice ad 0 c) (iY 0) >>= fun q=>(pure (.bool (!q)):Sem Value)):=rfl
    have hφ:∀ b,φ (.bool b):=fun b=>by cases b;exact h.2;exact h.1
    cases neq
    ·refine ⟨.bool ad.isNone,.bool ad.isNone,?_,.bool _,hφ _,by intro _ _ e;cases e⟩
     simp only [abO,if_false,Sem.run_bind,hg,Result.andThen_ok,h1,he,Sem.run_pure]
    ·refine ⟨.bool (!ad.isNone),.bool (!ad.isNone),?_,.bool _,hφ _,by intro _ _ e;cases e⟩
     simp only [if_true,Sem.run_bind,hg,Result.andThen_ok,h2,he,Sem.run_pure]
 rename_i b hb
 have he:(Op.equal t u (iY kd)).run P w=.ok b w:=vQ (d:=9999) ht hD hb hu
 have hg:∀ op,(eqGuard op t X Y u (iY kd)).run P w=.ok () w:=by
  intro op
  unfold isNil at hb
  split at hb <;> cases hb <;> cases hu <;> (unfold eqGuard;cases op <;> rfl)
 have h1:binOp .eql t u (iY kd)=(Op.equal t u (iY kd) >>= fun q=>(pure (.bool q):Sem Value)):=by
  unfold isNil at hb
  split at hb <;> cases hb <;> cases hu <;> rfl
 have h2:binOp .neq t u (iY kd)=(Op.equal t u (iY kd) >>= fun q=>(pure (.bool (!q)):Sem Value)):=by
  unfold isNil at hb
  split at hb <;> cases hb <;> cases hu <;> rfl
 cases neq
 ·refine ⟨.bool b,.bool b,?_,.bool _,h,by intro _ _ e;cases e⟩
  simp only [abO,if_false,Sem.run_bind,hg,Result.andThen_ok,h1,he,Sem.run_pure]
 ·refine ⟨.bool (!b),.bool (!b),?_,.bool _,h,by intro _ _ e;cases e⟩
  simp only [if_true,Sem.run_bind,hg,Result.andThen_ok,h2,he,Sem.run_pure]
theorem xa (hf:Fr A n M L w H env O a) {xs:List Operand} {is:List IX} (hc:gh xs=some is):aP M L (xs.map a.eval) (is.map fun x=>(aq env x).ab):=by
 have:=(hf.R1 hc).dn
 rwa [acs] at this
theorem cC (hf:Fr A n M L w H env O a) {x:Option Operand} {i:Option IX} (hc:lq x=some i):jR M L (gQ env i) (x.map a.eval):=by
 cases x with
 | none=>simp [lq] at hc;subst hc;trivial
 | some x=>
   simp only [lq] at hc
   obtain ⟨j,hj,rfl⟩:=yR.1 hc
   exact hf.eval hj
theorem HX {e:TypeId} {esz:Nat} {z:AV} (h:cB P e=some (esz,z)):dX P e=some esz∧fX P e=some z∧0 < esz∧z.cells.length=esz∧z.val=true:=by
 unfold cB at h
 split at h <;> try cases h
 rename_i h1 h2
 split at h <;> cases h
 rename_i hc
 exact ⟨h1,h2,hc⟩
theorem Js {x:AV} (h:aO 0 x):jP .string x=true:=by
 cases x <;> first | rfl | exact (show False from h).elim
theorem Dv {x:AV} (h:aO 1 x) (e:TypeId):jP (.slice e) x=true:=by
 cases x <;> first | rfl | exact (show False from h).elim
theorem Jt {x:AV} (h:aO 2 x) (k e:TypeId):jP (.map k e) x=true:=by
 cases x <;> first | rfl | exact (show False from h).elim
theorem Lq (o:Oper) {fl:Nat} {i:cv} (hc:cI P o fl=some i) (hp:∀ l,lo=some l→∀ id,l≤id→A.top id=none) (hf:Fr A n M L w H env O a) (hd:∀ d,o.dst=some d→d < n) (hnone:(match o.op with | .store .. | .mapUpdate ..=>o.dst=none | _=>True))
 (h:bC ⟨P,lo⟩ i o.dst env H K):o.wpIn (wf ro) 0 P a w (n7 A n M L w K) Q:=by
 cases db:o.op with
 | move x=>
   simp only [cI,db] at hc
   obtain ⟨j,hj,rfl⟩:=yR.1 hc
   exact z6 (.inl db) hj hf hd h
 | assign x=>
   simp only [cI,db] at hc
   obtain ⟨j,hj,rfl⟩:=yR.1 hc
   exact z6 (.inr db) hj hf hd h
 | pick c x y=>
   simp only [cI,db] at hc
   split at hc <;> cases hc
   rename_i c' x' y' h1 h2 h3
   simp only [bC] at h
   obtain ⟨b,hb,h⟩:=pw h
   have hr:=hf.eval h1
   rw [hb] at hr
   generalize hu:a.eval c=u at hr
   cases hr
   cases b
   ·exact wp_pure hf hd (by simp [execOp,db,hu,asBool]) (hf.eval h3).ab (AV.bR _) (h.2 rfl)
   ·exact wp_pure hf hd (by simp [execOp,db,hu,asBool]) (hf.eval h2).ab (AV.bR _) (h.1 rfl)
 | alloc e=>
   simp only [cI,db] at hc
   split at hc <;> try cases hc
   rename_i z hz
   split at hc <;> cases hc
   rename_i hv
   simp only [bC] at h
   obtain ⟨r,L',w',h1,h2,h3,h4,h5⟩:=FL (P:=P) hf.st hz hv h.1
   exact pv hf hd (by simp only [execOp,db];exact bb h1) h2 (by intro _ _ e;cases e) h3 h4 h5 h.2
 | box e x=>
   simp only [cI,db] at hc
   obtain ⟨j,hj,hc⟩:=yR.1 hc
   split at hc <;> subst hc <;> simp only [bC] at h
   ·obtain ⟨r,M',w',h1,h2,h3,h4⟩:=Jh (P:=P) hf.st e (hf.eval hj) h.1
    exact pv hf hd (by simp only [execOp,db];exact bb h1) h2 (by intro _ _ e;cases e) h3 h4 (aav L) h.2
   ·obtain ⟨r,L',w',h1,h2,h3,h4,h5⟩:=C9 (P:=P) hf.st e (hf.eval hj) h.1 h.2.1
    exact pv hf hd (by simp only [execOp,db];exact bb h1) h2 (by intro _ _ e;cases e) h3 h4 h5 h.2.2
 | build t ps=>
   simp only [cI,db] at hc
   split at hc <;> try cases hc
   rename_i z places ht
   split at hc <;> try cases hc
   rename_i qs hq
   split at hc <;> cases hc
   rename_i hv
   simp only [bC] at h
   obtain ⟨r,x,h1,h2,h3,h4⟩:=FN (P:=P) hf ht hq h hv
   exact wp_pure hf hd (by simp only [execOp,db];exact bb h1) h2 h4 h3
 | buildSlice t len ps=>
   simp only [cI,db] at hc
   split at hc <;> try cases hc
   rename_i e ht
   split at hc <;> try cases hc
   rename_i esz z qs hz hq
   split at hc <;> cases hc
   rename_i hlen
   obtain ⟨p1,p2,p3,p4,p5⟩:=HX hz
   obtain ⟨q1,q2⟩:=nR hf _ _ hq
   by_cases Xv:fl=2
   ·rw [if_pos Xv] at h
    simp only [bC] at h
    obtain ⟨r,x,L',w',H',h1,h2,h3,h4,h5,h6,h7⟩:=Jp (P:=P) hf.st ht p1 p3 p2 p4 p5 hlen (vs:=ps.map fun (i,x)=>(i,a.eval x)) (by
     intro j p hp
     obtain ⟨v,v1,v2⟩:=q1 j p hp
     exact ⟨v,by simpa using v1,v2⟩) (by simp [q2]) h
    exact pv hf hd (by simp only [execOp,db];exact bb h1) h2 h3 h5 h6 h7 h4
   rw [if_neg Xv] at h
   simp only [bC] at h
   obtain ⟨m,xs,M',w',ad,h1,h2,h3,h4,h5,h6⟩:=vK (P:=P) hf.st ht p1 p3 p2 p4 p5 (if fl=1 then esz else 0) hlen (vs:=ps.map fun (i,x)=>(i,a.eval x)) (by
    intro j p hp
    obtain ⟨v,v1,v2⟩:=q1 j p hp
    exact ⟨v,by simpa using v1,v2⟩) (by simp [q2]) h
   obtain ⟨O',qe⟩:=(hf.mono h5 h6).HS (dst:=o.dst) hd h2 (fun dJ y hy=>by
    split at dJ
    ·rename_i O4;rw [if_pos O4];exact h3 y hy
    ·exact absurd rfl dJ)
   exact dj (by simp only [execOp,db];exact bb h1) ⟨M',L,H,_,O',h4,qe,h6,aav L⟩
 | load t x=>
   simp only [cI,db] at hc
   split at hc <;> try cases hc
   rename_i sz j ht hj
   split at hc
   ·split at hc <;> cases hc
    rename_i hs
    subst hs
    exact w8 db ht hj hf hd h
   split at hc
   ·cases hc
    simp only [bC] at h
    obtain ⟨r,z,h1,h2,h3,h4⟩:=tq (P:=P) ht hf.st h (hf.eval hj)
    obtain ⟨y,M',H',O',g1,g2,g3,g4,g5⟩:=tA hf.st h3 h2
    obtain ⟨O'',qe⟩:=(hf.mono g3 g4).ow (dst:=o.dst) hd g1 g5
    exact dj (by simp only [execOp,db];exact bb h1) ⟨M',L,H',_,O'',g2,qe,g4,aav L⟩
   ·cases hc
    simp only [bC] at h
    obtain ⟨r,z,h1,h2,h3,h4⟩:=tq (P:=P) ht hf.st h (hf.eval hj)
    exact bU hf hd ⟨r,z,by simp only [execOp,db];exact bb h1,h2,h3,h4⟩
 | store t x y=>
   simp only [db] at hnone
   simp only [cI,db] at hc
   split at hc <;> try cases hc
   rename_i m j k ht hj hk
   split at hc
   ·split at hc <;> try cases hc
    rename_i s
    split at hc <;> cases hc
    rename_i hm
    subst hm
    exact zh db ht hj hk hf hnone h
   split at hc
   ·cases hc
    simp only [bC] at h
    obtain ⟨l,rfl⟩:∃ l,lo=some l:=by cases lo with | none=>exact h.elim | some l=>exact ⟨l,rfl⟩
    obtain ⟨w',H',O',h1,h2,h3,h4⟩:=De (P:=P) hf.st (hp l rfl) ht h (hf.eval hj) (hf.eval hk)
    refine mS (by simp only [execOp,db];exact rS h1) ⟨M,L,H',env,O',h2,?_,h4,aav L⟩
    rw [hnone];exact ⟨h3,hf.size,hf.defers.ext h4⟩
   ·cases hc
    simp only [bC] at h
    obtain ⟨w',H',O',h1,h2,h3,h4⟩:=FO (P:=P) hf.st ht h (hf.eval hj) (hf.eval hk)
    refine mS (by simp only [execOp,db];exact rS h1) ⟨M,L,H',env,O',h2,?_,h4,aav L⟩
    rw [hnone];exact ⟨h3,hf.size,hf.defers.ext h4⟩
 | nilCheck x=>
   simp only [cI,db] at hc
   obtain ⟨j,hj,rfl⟩:=yR.1 hc
   simp only [bC] at h
   exact bU hf hd (za db h (hf.eval hj))
 | binOp op t x y yt=>
   simp only [cI,db] at hc
   split at hc <;> try cases hc
   rename_i j k hj hk
   have hx:=hf.eval hj
   have hy:=hf.eval hk
   have plain:∀ {op},dt op (aq env j) (aq env k) (fun z=>K (put o.dst z env) H)→o.op=.binOp op t x y yt→o.wpIn (wf ro) 0 P a w (n7 A n M L w K) Q:=by
    intro op h db
    obtain ⟨r,z,h1,h2,h3,h4⟩:=K7 (P:=P) (w:=w) (t:=t) h hx hy x y
    exact bU hf hd ⟨r,z,by simp only [execOp,db];exact bb h1,h2,h3,h4⟩
   split at hc
   ·cases hc
    simp only [bC] at h
    obtain ⟨r,z,h1,h2,h3,h4⟩:=wP (P:=P) (w:=w) (t:=t) h hx hy x y
    exact bU hf hd ⟨r,z,by simp only [execOp,db];exact bb h1,h2,h3,h4⟩
   ·cases hc
    simp only [bC] at h
    obtain ⟨r,z,h1,h2,h3,h4⟩:=wP (P:=P) (w:=w) (t:=t) h hx hy x y
    exact bU hf hd ⟨r,z,by simp only [execOp,db];exact bb h1,h2,h3,h4⟩
   ·split at hc <;> try cases hc
    ·rename_i ht
     simp only [bC] at h
     obtain ⟨r,z,h1,h2,h3,h4⟩:=uJ (P:=P) (w:=w) (neq:=false) ht h hx hy x y
     exact bU hf hd ⟨r,z,by simp only [execOp,db];exact bb h1,h2,h3,h4⟩
    ·exact plain (op:=.eql) h db
    ·exact plain (op:=.eql) h db
    all_goals
     rename_i ht
     split at hc <;> cases hc
     simp only [bC] at h
     obtain ⟨r,z,h1,h2,h3,h4⟩:=w9 (P:=P) (w:=w) (neq:=false) ht rfl h hx x (.const .nilFunc)
     exact bU hf hd ⟨r,z,by simp only [execOp,db];exact bb h1,h2,h3,h4⟩
   ·split at hc <;> try cases hc
    ·rename_i ht
     simp only [bC] at h
     obtain ⟨r,z,h1,h2,h3,h4⟩:=uJ (P:=P) (w:=w) (neq:=true) ht h hx hy x y
     exact bU hf hd ⟨r,z,by simp only [execOp,db];exact bb h1,h2,h3,h4⟩
    ·exact plain (op:=.neq) h db
    ·exact plain (op:=.neq) h db
    all_goals
     rename_i ht
     split at hc <;> cases hc
     simp only [bC] at h
     obtain ⟨r,z,h1,h2,h3,h4⟩:=w9 (P:=P) (w:=w) (neq:=true) ht rfl h hx x (.const .nilFunc)
     exact bU hf hd ⟨r,z,by simp only [execOp,db];exact bb h1,h2,h3,h4⟩
   ·cases hc;exact plain h db
 | unOp op t x=>
   simp only [cI,db] at hc
   obtain ⟨j,hj,rfl⟩:=yR.1 hc
   simp only [bC] at h
   obtain ⟨r,z,h1,h2,h3,h4⟩:=OR (P:=P) (w:=w) h (hf.eval hj)
   exact bU hf hd ⟨r,z,by simp only [execOp,db];exact bb h1,h2,h3,h4⟩
 | convert src dst x=>
   simp only [cI,db] at hc
   split at hc <;> try cases hc
   ·rename_i k1 k2 j hs TE hj
    simp only [bC] at h
    obtain ⟨r,z,h1,h2,h3,h4⟩:=Bn (P:=P) (w:=w) hs TE h (hf.eval hj)
    exact bU hf hd ⟨r,z,by simp only [execOp,db];exact bb h1,h2,h3,h4⟩
   ·rename_i j hs TE hj
    simp only [bC] at h
    obtain ⟨r,z,h1,h2,h3,h4⟩:=Bt (P:=P) (w:=w) hs TE h (hf.eval hj)
    exact bU hf hd ⟨r,z,by simp only [execOp,db];exact bb h1,h2,h3,h4⟩
   ·rename_i e j hs TE hj
    split at hc <;> cases hc
    rename_i he
    simp only [bC] at h
    obtain ⟨r,z,w',M',ob,h1,h2,h3,h4,h5,h6,h7,h8⟩:=Bu (P:=P) hf.st hs TE he h (hf.eval hj)
    exact w7 hf hd (by simp only [execOp,db];exact bb h1) h2 h4 h5 h6 h7 h8 h3
   ·rename_i e j hs TE hj
    split at hc <;> cases hc
    rename_i he
    simp only [bC] at h
    obtain ⟨r,z,h1,h2,h3,h4⟩:=FT (P:=P) hf.st hs he TE h (hf.eval hj)
    exact bU hf hd ⟨r,z,by simp only [execOp,db];exact bb h1,h2,h3,h4⟩
 | makeFunc f first cap=>
   simp only [cI,db] at hc
   split at hc <;> cases hc
   rename_i i j hi hj
   simp only [bC] at h
   refine bU hf hd ⟨.func f (first.map a.eval) (cap.map a.eval),_,?_,?_,h,by intro _ _ e;cases e⟩
   ·simp only [execOp,db];rfl
   ·have:=aW.fn (M:=M) (L:=L) f (first.toList.map a.eval) (cap.toList.map a.eval) _ _ (xa hf hi) (xa hf hj)
    rw [show (first.toList.map a.eval).toArray=first.map a.eval by apply Array.ext';simp,show (cap.toList.map a.eval).toArray=cap.map a.eval by apply Array.ext';simp] at this
    exact this
 | makeMap t r=>
   cases r with
   | some r=>simp [cI,db] at hc
   | none=>
     simp only [cI,db] at hc
     cases hc
     simp only [bC] at h
     obtain ⟨r,L',w',h1,h2,h3,h4,h5⟩:=FW (P:=P) hf.st t
     exact pv hf hd (by simp only [execOp,db];exact bb h1) h2 (by intro _ _ e;cases e) h3 h4 h5 h
 | makeSlice t l c=>
   simp only [cI,db] at hc
   split at hc <;> try cases hc
   rename_i e k ht hk
   split at hc <;> try cases hc
   rename_i esz z bytes hz hb
   split at hc <;> try cases hc
   rename_i hcond
   obtain ⟨rF,BD⟩:=hcond
   obtain ⟨p1,p2,p3,p4,p5⟩:=HX hz
   obtain ⟨inf,iC,di⟩:=yR.1 p1
   obtain ⟨inf',oK,tc⟩:=yR.1 hb
   rw [iC] at oK;cases oK
   unfold fX at p2
   simp only [iC] at p2
   split at p2 <;> try cases p2
   rename_i zv qk
   split at hc
   ·cases hc
    simp only [bC] at h
    have v8:zv.cells.size=esz:=by have:=((cV (M:=M) (L:=L) p2).gO p5).length;rw [p4] at this;simpa using this
    obtain ⟨r,w',M',b,h1,h2,h3,h4,h5,h6,h7,h8,h9,h10⟩:=FR (P:=P) hf.st ht iC qk di tc p3 rF v8 h (hf.eval hk)
    exact w7 hf hd (by simp only [execOp,db];exact bb h1) h2 h4 h5 h6 (fun q b' ey=>by cases ey;exact h7 q) (fun b' ey=>by cases ey;exact ⟨h8,h9,h10⟩) h3
   ·split at hc <;> cases hc
    rename_i hsame
    simp only [bC] at h
    have Bo:a.eval l=a.eval c:=by
     unfold Lp at hsame
     split at hsame
     ·simp at hsame;subst hsame;rfl
     ·simp at hsame;subst hsame;rfl
     ·cases hsame
    have Di:∀ y∈z.cells,∀ own xs,y=.al own xs→own=0:=by
     intro y hy own xs e
     have:=abF.1 BD y hy
     subst e
     simpa using this
    obtain ⟨r,x,L',w',H',h1,h2,h3,h4,h5,h6,h7⟩:=FQ (P:=P) hf.st ht iC qk di tc p3 rF p2 p5 p4 Di h (hf.eval hk)
    exact pv hf hd (by simp only [execOp,db,Bo];exact bb h1) h2 h3 h5 h6 h7 h4
 | slice t x lo hi mx=>
   simp only [cI,db] at hc
   split at hc <;> try cases hc
   ·rename_i e i l h' m ht k9 hl hh hm
    split at hc <;> try cases hc
    rename_i esz he
    split at hc <;> cases hc
    rename_i h0
    by_cases O4:fl=4
    ·rw [if_pos O4] at h
     simp only [bC] at h
     obtain ⟨ad,k,c,own,ys,h1,h2,⟨h3,WQ⟩,h4⟩:=wT (P:=P) hf.st ht he h0 h.2 (hf.eval k9) h.1 (cC hf hl) (cC hf hh) (cC hf hm)
     cases h3
     obtain ⟨rfl,_⟩:=h4 (by omega)
     have hk:k=0:=by
      cases h2 with
      | iw=>rfl
      | al b off c own e cs xs he hx hn=>simp at hn
     subst hk
     exact bU hf hd ⟨_,_,by simp only [execOp,db];exact bb h1,.om ad,WQ,by intro _ _ e;cases e⟩
    rw [if_neg O4] at h
    simp only [bC] at h
    unfold bA at h
    split at h
    ·rename_i e0 a0 b0 c0 d0 Li
     rw [← Li] at h
     split at h
     ·rename_i Dh
      have WM:mx=none:=by
       cases mx with
       | none=>rfl
       | some q=>simp only [lq] at hm;obtain ⟨_,_,rfl⟩:=yR.1 hm;cases Dh
      subst WM
      obtain ⟨r,z,h1,h2,h3,h4⟩:=Dn (P:=P) ht he h (hf.eval k9) (cC hf hl) (cC hf hh)
      exact bU hf hd ⟨r,z,by simp only [execOp,db];exact bb h1,h2,h3,h4⟩
     ·rename_i m0 Dh
      have hm3:=cC (a:=a) hf hm
      rw [Dh] at hm3
      obtain ⟨r,z,h1,h2,h3,h4⟩:=Dp (P:=P) ht he h (hf.eval k9) (cC hf hl) (cC hf hh) hm3
      exact bU hf hd ⟨r,z,by simp only [execOp,db];exact bb h1,h2,h3,h4⟩
    obtain ⟨ad,k,c,own,ys,h1,h2,h3,h4⟩:=wT (P:=P) hf.st ht he h0 h.2 (hf.eval k9) h.1 (cC hf hl) (cC hf hh) (cC hf hm)
    by_cases vN:own=0
    ·subst vN
     exact bU hf hd ⟨_,_,by simp only [execOp,db];exact bb h1,h2,h3,by intro _ _ e;cases e;rfl⟩
    ·obtain ⟨rfl,h5⟩:=h4 vN
     obtain ⟨O',qe⟩:=hf.HS (dst:=o.dst) hd h2 (fun _=>h5)
     exact dj (by simp only [execOp,db];exact bb h1) ⟨M,L,H,_,O',h3,qe,Ext.refl A M w,aav L⟩
   ·rename_i i l h' ht k9 hl hh hm
    simp only [bC] at h
    have WM:mx=none:=by
     cases mx with
     | none=>rfl
     | some q=>simp only [lq] at hm;obtain ⟨_,_,hz⟩:=yR.1 hm;cases hz
    subst WM
    obtain ⟨r,z,h1,h2,h3,h4⟩:=zg (P:=P) (w:=w) ht h (hf.eval k9) (cC hf hl) (cC hf hh)
    exact bU hf hd ⟨r,z,by simp only [execOp,db];exact bb h1,h2,h3,h4⟩
 | fieldAddr s x f=>
   simp only [cI,db] at hc
   split at hc <;> cases hc
   rename_i off sz j ht hj
   simp only [bC] at h
   obtain ⟨r,z,h1,h2,h3,h4⟩:=wQ (P:=P) (w:=w) ht h (hf.eval hj)
   exact bU hf hd ⟨r,z,by simp only [execOp,db];exact bb h1,h2,h3,h4⟩
 | field s x f=>
   simp only [cI,db] at hc
   split at hc <;> cases hc
   rename_i off sz j ht hj
   simp only [bC] at h
   obtain ⟨r,z,h1,h2,h3,h4⟩:=FJ (P:=P) (w:=w) ht h (hf.eval hj)
   exact bU hf hd ⟨r,z,by simp only [execOp,db];exact bb h1,h2,h3,h4⟩
 | indexAddr t x i=>
   simp only [cI,db] at hc
   split at hc <;> try cases hc
   rename_i e j k ht hj hk
   obtain ⟨esz,he,rfl⟩:=yR.1 hc
   simp only [bC] at h
   obtain ⟨r,z,h1,h2,h3,h4⟩:=wR (P:=P) (w:=w) ht he h.2 h.1 (hf.eval hj) (hf.eval hk)
   exact bU hf hd ⟨r,z,by simp only [execOp,db];exact bb h1,h2,h3,h4⟩
 | index t x i=>
   simp only [cI,db] at hc
   split at hc <;> try cases hc
   ·rename_i j k ht hj hk
    simp only [bC] at h
    obtain ⟨r,z,h1,h2,h3,h4⟩:=y9 (P:=P) (w:=w) ht h (hf.eval hj) (hf.eval hk)
    exact bU hf hd ⟨r,z,by simp only [execOp,db];exact bb h1,h2,h3,h4⟩
   ·rename_i m e j k ht hj hk
    split at hc <;> cases hc
    rename_i he
    simp only [bC] at h
    obtain ⟨r,z,h1,h2,h3,h4⟩:=y7 (P:=P) (w:=w) ht he h (hf.eval hj) (hf.eval hk)
    exact bU hf hd ⟨r,z,by simp only [execOp,db];exact bb h1,h2,h3,h4⟩
 | lookup t m k ok=>
   simp only [cI,db] at hc
   split at hc <;> try cases hc
   rename_i kt et i j ht hi hj
   split at hc <;> cases hc
   rename_i kd z hk hz
   simp only [bC] at h
   obtain ⟨r,z,h1,h2,h3,h4⟩:=Dl (P:=P) hf.st ht hk hz h (hf.eval hi) (hf.eval hj)
   exact bU hf hd ⟨r,z,by simp only [execOp,db];exact bb h1,h2,h3,h4⟩
 | mapUpdate t m k x=>
   simp only [db] at hnone
   simp only [cI,db] at hc
   split at hc <;> try cases hc
   rename_i kt et i j y ht hi hj hy
   obtain ⟨kd,hk,rfl⟩:=yR.1 hc
   simp only [bC] at h
   obtain ⟨w',H',h1,h2,h3,h4⟩:=Dm (P:=P) hf.st ht hk h (hf.eval hi) (hf.eval hj) (hf.eval hy)
   refine mS (by simp only [execOp,db];exact rS h1) ⟨M,L,H',env,O,h2,?_,h4,aav L⟩
   rw [hnone];exact ⟨h3,hf.size,hf.defers.ext h4⟩
 | extract x i=>
   simp only [cI,db] at hc
   obtain ⟨j,hj,rfl⟩:=yR.1 hc
   simp only [bC] at h
   obtain ⟨r,z,h1,h2,h3,h4⟩:=Bm (P:=P) (w:=w) h (hf.eval hj)
   exact bU hf hd ⟨r,z,by simp only [execOp,db];exact bb h1,h2,h3,h4⟩
 | call c=>
   simp only [cI,db] at hc
   split at hc
   ·rename_i f n9
    split at hc <;> cases hc
    rename_i i js hi hj
    exact FZ db n9 hi hj hp hf hd h
   ·rename_i n9
    split at hc <;> try cases hc
    rename_i x t hargs BE
    have hcall:c={ callee:=.builtin .len,args:=#[x],argTypes:=#[t] }:=by
     obtain ⟨c1,c2,c3⟩:=c
     simp only at n9 hargs BE
     subst n9
     rw [show c2=#[x] from Array.ext' hargs,show c3=#[t] from Array.ext' BE]
    subst hcall
    have fin:∀ {d:TypeDesc} {kd:Nat} {j:IX},P.underlying t=some d→aU x=some j→jP d (aq env j)=true→(fg (aq env j) H fun z=>K (put o.dst z env) H)→o.wpIn (wf ro) 0 P a w (n7 A n M L w K) Q:=by
     intro d kd j ht hj hk h
     obtain ⟨r,z,h1,h2,h3,h4⟩:=Lc (P:=P) ht hf.st hk h (hf.eval hj) o.type
     refine bU hf hd ⟨r,z,?_,h2,h3,h4⟩
     simp only [execOp,db,resolve,invoke,builtin,Sem.run_bind,Sem.run_pure,Result.andThen_ok,acC,List.map_cons,List.map_nil,h1]
    split at hc <;> cases hc
    ·rename_i j ht hj;exact fin (kd:=0) ht hj (Js h.1) h.2
    ·rename_i e j ht hj;exact fin (kd:=0) ht hj (Dv h.1 e) h.2
    ·rename_i k e j ht hj;exact fin (kd:=0) ht hj (Jt h.1 k e) h.2
   ·rename_i n9
    split at hc <;> try cases hc
    rename_i s x t t' hargs BE
    split at hc <;> try cases hc
    rename_i htt
    subst htt
    split at hc <;> try cases hc
    rename_i e i j ht hi hj
    split at hc <;> try cases hc
    rename_i esz z bytes hz hb
    split at hc <;> try cases hc
    rename_i rF
    have hcall:c={ callee:=.builtin .append,args:=#[s,x],argTypes:=#[t,t] }:=by
     obtain ⟨c1,c2,c3⟩:=c
     simp only at n9 hargs BE
     subst n9
     rw [show c2=#[s,x] from Array.ext' hargs,show c3=#[t,t] from Array.ext' BE]
    subst hcall
    split at hc
    ·split at hc <;> cases hc
     rename_i BD
     exact zi db ht hz hb rF BD hi hj hf hd h
    split at hc
    ·split at hc <;> cases hc
     rename_i BD
     exact zj db ht hz hb rF BD hi hj hf hd hp h
    cases hc
    exact BC db ht hz hb rF hi hj hf hd h
   ·rename_i n9
    split at hc <;> try cases hc
    rename_i x y hargs
    split at hc <;> cases hc
    rename_i i j hi hj
    simp only [bC] at h
    obtain ⟨r,z,h1,h2,h3,h4⟩:=HT (P:=P) (w:=w) (big:=true) h (hf.eval hi) (hf.eval hj) c.argTypes o.type
    refine bU hf hd ⟨r,z,?_,h2,h3,h4⟩
    have hargs':c.args=#[x,y]:=Array.ext' hargs
    simp only [if_true] at h1
    simp only [execOp,db,resolve,n9,invoke,builtin,Sem.run_bind,Sem.run_pure,Result.andThen_ok,hargs',acC,List.map_cons,List.map_nil,h1]
   ·rename_i n9
    split at hc <;> try cases hc
    rename_i x y hargs
    split at hc <;> cases hc
    rename_i i j hi hj
    simp only [bC] at h
    obtain ⟨r,z,h1,h2,h3,h4⟩:=HT (P:=P) (w:=w) (big:=false) h (hf.eval hi) (hf.eval hj) c.argTypes o.type
    refine bU hf hd ⟨r,z,?_,h2,h3,h4⟩
    have hargs':c.args=#[x,y]:=Array.ext' hargs
    simp only [abO,if_false] at h1
    simp only [execOp,db,resolve,n9,invoke,builtin,Sem.run_bind,Sem.run_pure,Result.andThen_ok,hargs',acC,List.map_cons,List.map_nil,h1]
   ·cases hc
 | _=>simp [cI,db] at hc
theorem F0 (o:Oper) (hf:Fr A n M L w H env O a) (hd:∀ d,o.dst=some d→d < n) (h:bC ⟨P,lo⟩ (rR P o) o.dst env H K):o.wpIn (wf ro) 0 P a w (n7 A n M L w K) Q:=by
 cases db:o.op with
 | call c=>
   simp only [rR,db] at h
   split at h <;> try exact h.elim
   rotate_left
   ·rename_i n9
    split at h <;> try exact h.elim
    rename_i s t hargs BE
    split at h <;> try exact h.elim
    rename_i e i ht hi
    split at h <;> try exact h.elim
    rename_i esz z hz
    simp only [bC] at h
    unfold cB at hz
    split at hz <;> try cases hz
    rename_i esz' z' Ou mW
    split at hz <;> cases hz
    rename_i hcond
    obtain ⟨h0,eS,qk⟩:=hcond
    obtain ⟨inf,iC,di⟩:=yR.1 Ou
    unfold fX at mW
    simp only [iC] at mW
    split at mW <;> try cases mW
    rename_i zv tw
    obtain ⟨w',H',O',h1,h2,h3,h4⟩:=Ds (P:=P) hf.st ht iC tw h0 mW qk eS h (hf.eval hi) o.type
    obtain ⟨O'',qe⟩:=(hf.mono h3 h4).ow (dst:=o.dst) hd (.tuple [] [] .nil) (by intro _ _ e;cases e)
    have hargs':c.args=#[s]:=Array.ext' hargs
    have Lr:c.argTypes=#[t]:=Array.ext' BE
    refine dj (v:=.tuple #[]) ?_ ⟨M,L,H',_,O'',h2,qe,h4,aav L⟩
    simp only [execOp,db,resolve,n9,invoke,builtin,Sem.run_bind,Sem.run_pure,Result.andThen_ok,hargs',Lr,acC,List.map_cons,List.map_nil,h1]
   rename_i n9
   split at h <;> try exact h.elim
   rename_i s x t t' hargs BE
   split at h <;> try exact h.elim
   rename_i e i j ht hi hj
   split at h <;> try exact h.elim
   rename_i esz he
   simp only [bC] at h
   obtain ⟨r,z,w',H',O',h1,h2,h3,h4,h5,h6⟩:=Jn (P:=P) hf.st ht he h (hf.eval hi) (hf.eval hj) t' o.type
   obtain ⟨O'',qe⟩:=(hf.mono h4 h5).ow (dst:=o.dst) hd h2 h6
   have hargs':c.args=#[s,x]:=Array.ext' hargs
   have Lr:c.argTypes=#[t,t']:=Array.ext' BE
   refine dj (v:=r) ?_ ⟨M,L,H',_,O'',h3,qe,h5,aav L⟩
   simp only [execOp,db,resolve,n9,invoke,builtin,Sem.run_bind,Sem.run_pure,Result.andThen_ok,hargs',Lr,acC,List.map_cons,List.map_nil,h1]
 | _=>simp only [rR,db] at h;exact h.elim
theorem F3 (o:Oper) (hf:Fr A n M L w H env O a) (hd:∀ d,o.dst=some d→d < n) (h:bC ⟨P,lo⟩ (oJ P o) o.dst env H K):o.wpIn (wf ro) 0 P a w (n7 A n M L w K) Q:=by
 have key:∀ {x:Operand},(o.op=.move x∨o.op=.assign x)→∀ {i:IX} {esz:Nat},aU x=some i→(fY esz (aq env i) H fun z H'=>K (put o.dst z env) H')→o.wpIn (wf ro) 0 P a w (n7 A n M L w K) Q:=by
  intro x ho i esz hi h
  obtain ⟨z,M',H',O',h1,h2,h3,h4,h5⟩:=tA hf.st h (hf.eval hi)
  have bO:(execOp a.eval o).run P w=.ok (.value (a.eval x)) w:=by
   rcases ho with ho | ho <;> simp [execOp,ho]
  obtain ⟨O'',qe⟩:=(hf.mono h3 h4).ow (dst:=o.dst) hd h1 h5
  exact dj bO ⟨M',L,H',_,O'',h2,qe,h4,aav L⟩
 cases db:o.op with
 | move x=>
   simp only [oJ,db] at h
   split at h <;> try exact h.elim
   rename_i hi ht
   split at h <;> try exact h.elim
   exact key (.inl db) hi h
 | assign x=>
   simp only [oJ,db] at h
   split at h <;> try exact h.elim
   rename_i hi ht
   split at h <;> try exact h.elim
   exact key (.inr db) hi h
 | _=>simp only [oJ,db] at h;exact h.elim
theorem Dw (o:Oper) (esz:Nat) (hf:Fr A n M L w H env O a) (hd:∀ d,o.dst=some d→d < n) (h:bC ⟨P,lo⟩ (mi esz o) o.dst env H K):o.wpIn (wf ro) 0 P a w (n7 A n M L w K) Q:=by
 have key:∀ {x:Operand},(o.op=.move x∨o.op=.assign x)→∀ {i:IX},aU x=some i→(fY esz (aq env i) H fun z H'=>K (put o.dst z env) H')→o.wpIn (wf ro) 0 P a w (n7 A n M L w K) Q:=by
  intro x ho i hi h
  obtain ⟨z,M',H',O',h1,h2,h3,h4,h5⟩:=tA hf.st h (hf.eval hi)
  have bO:(execOp a.eval o).run P w=.ok (.value (a.eval x)) w:=by
   rcases ho with ho | ho <;> simp [execOp,ho]
  obtain ⟨O'',qe⟩:=(hf.mono h3 h4).ow (dst:=o.dst) hd h1 h5
  exact dj bO ⟨M',L,H',_,O'',h2,qe,h4,aav L⟩
 cases db:o.op with
 | move x=>
   simp only [mi,db] at h
   split at h <;> try exact h.elim
   rename_i hi
   exact key (.inl db) hi h
 | assign x=>
   simp only [mi,db] at h
   split at h <;> try exact h.elim
   rename_i hi
   exact key (.inr db) hi h
 | _=>simp only [mi,db] at h;exact h.elim
theorem uS (o:Oper) {fl:Nat} (hp:∀ l,lo=some l→∀ id,l≤id→A.top id=none) (hf:Fr A n M L w H env O a) (hd:∀ d,o.dst=some d→d < n) (hnone:(match o.op with | .store .. | .mapUpdate ..=>o.dst=none | _=>True))
 (h:bC ⟨P,lo⟩ (Dt P o fl) o.dst env H K):o.wpIn (wf ro) 0 P a w (n7 A n M L w K) Q:=by
 unfold Dt at h
 split at h
 ·exact F3 o hf hd h
 split at h
 ·exact Dw o _ hf hd h
 cases hc:cI P o fl with
 | none=>rw [hc] at h;exact F0 o hf hd h
 | some i=>rw [hc] at h;exact Lq o hc hp hf hd hnone h
end
end Go.aK
end
section
namespace Go.aK
open Go
section
variable {M:Mem} {L:List Nat}
theorem rW {n:Nat}:∀ {xs:List AV},(∀ x∈xs,x.cells.length≠0)→aj n (flat xs)=true→aj n xs=true
 | [],_,_=>rfl
 | x::xs,hx,h=>by
   rw [a9] at h ⊢
   intro y hy
   rcases aai.1 hy with rfl | hy
   ·cases y with
    | agg ys=>
      simp only [AV.bc]
      rw [a9]
      intro z hz
      exact h z (by simp [flat,AV.cells,hz])
    | _=>exact h _ (by simp [flat,AV.cells])
   ·have:=rW (xs:=xs) (n:=n) (fun x rD=>hx x (aaF _ rD)) (by
     rw [a9]
     intro z hz
     exact h z (by simp only [flat,List.flatMap_cons,abJ] at hz ⊢;exact .inr hz))
    rw [a9] at this
    exact this y hy
theorem Ju {n:Nat} {x:AV} (h:aj n x.cells=true):x.bc n=true:=by
 cases x <;> simp_all [AV.cells,AV.bc,aj]
theorem aW.O9 {v:Value} {x:AV} (h:aW M L v x):x.bc L.length=true:=by
 induction h using aW.rec (motive_2:=fun vs xs _=>aj L.length xs=true) with
 | al b off c own e cs xs he hx hn hle hc hr hm ih=>exact rW (fun x rD=>by rw [hx x rD];omega) ih
 | aZ b off len cap id hl hc=>simp only [AV.bc,decide_eq_true_eq];exact aR hl
 | agg cs xs hr ih=>exact ih
 | tuple cs xs hr ih=>exact ih
 | ptr b off id hl=>simp only [AV.bc,decide_eq_true_eq];exact aR hl
 | ai b off cs x hr hm ih=>simp only [AV.bc];exact Ju ih
 | map b id hl=>simp only [AV.bc,decide_eq_true_eq];exact aR hl
 | ou b id hl=>simp only [AV.bc,decide_eq_true_eq];exact aR hl
 | fn f fs cs xs ys h1 h2 i1 i2=>simp only [AV.bc,Ot];exact ⟨i1,i2⟩
 | iface t v x h ih=>exact ih
 | cons v x vs xs h t i1 i2=>simp only [aj,Ot];exact ⟨i1,i2⟩
 | nil=>rfl
 | _=>rfl
theorem aP.O9:∀ {vs:List Value} {xs:List AV},aP M L vs xs→aj L.length xs=true
 | _,_,.nil=>rfl
 | _,_,.cons _ _ _ _ h t=>by simp only [aj,Ot];exact ⟨h.O9,t.O9⟩
end
section
variable {A:Perm} {M:Mem} {L:List Nat} {w:World} {H:List aa} {ev:Nat→Value} {ea:Nat→AV} {O:Pos→Option Nat}
theorem St.px (h:St A M L w H ev ea O) {id b:Nat} {st st':WK} {lc:ju} {es:List AV} {r':Loop} (bn:H[id]?=some (.loop st lc es)) (hL:L[id]?=some b)
 (hr:∀ r,w.heap[b]?=some (.loop r)→r'.params=r.params∧r'.assign=r.assign∧r'.body=r.body∧r'.tmps=r.tmps∧r'.defers=r.defers∧st'.ok r') :
 St A M L (w.putObj b (.loop r')) (H.set id (.loop st' lc es)) ev ea O∧Ext A M w M (w.putObj b (.loop r')):=by
 have zR:b∈L:=abE hL
 have Ts:=h.lt b zR
 obtain ⟨r0,hc,p1,p2,p3,p4,p5⟩:=h.obj id _ b bn hL
 obtain ⟨q1,q2,q3,q4,q5,q6⟩:=hr r0 hc
 have gN:∀ k,k≠b→(w.putObj b (.loop r')).heap[k]?=w.heap[k]?:=fun k hk=>World.putObj_heap_other hk
 have nZ:(w.putObj b (.loop r')).heap[b]?=some (.loop r'):=World.putObj_heap_same Ts
 have WL:∀ o,M b o=none:=by
  intro o
  cases hm:M b o with
  | none=>rfl
  | some v=>
    have:=h.mem b o v hm
    simp [World.cell?,hc] at this
 have rL:id < H.length:=aR bn
 refine ⟨{ len:=by simp [h.len],nodup:=h.nodup,env:=h.env,mem:=?_,obj:=?_,bI:=?_,lt:=?_,iX:=?_,iT:=?_,cz:=h.cz,cG:=h.cG,fP:=?_,La:=h.La,Oa:=h.Oa,fresh:=?_ },?_⟩
 ·intro k o v hv
  have hk:k≠b:=by rintro rfl;rw [WL o] at hv;cases hv
  have:=h.mem k o v hv
  simp only [World.cell?] at this ⊢
  rw [gN k hk];exact this
 ·intro id' o k ho hk
  by_cases e0:id'=id
  ·subst e0
   rw [hL] at hk;cases hk
   rw [yS rL] at ho
   cases ho
   exact ⟨r',nZ,q1.trans p1,q2.trans p2,q3.trans p3,by rw [q4];exact p4,q6⟩
  ·rw [yQ (fun h'=>e0 h'.symm)] at ho
   have FA:k≠b:=by
    rintro rfl
    exact e0 ((acM (aR hk) h.nodup).1 (hk.trans hL.symm))
   exact (h.obj id' o k ho hk).mono (Mem.bY M) (aav _) (gN k FA) (fun _=>rfl)
 ·intro id' o ho
  rw [acd]
  by_cases e0:id'=id
  ·subst e0
   rw [yS rL] at ho
   cases ho
   exact h.bI id' (.loop st lc es) bn
  ·rw [yQ (fun h'=>e0 h'.symm)] at ho
   exact h.bI id' o ho
 ·intro k hk;simpa using h.lt k hk
 ·intro t
  exact (h.iX t).mono fun k hk=>⟨gN k (fun e3=>h.cG _ k hk (e3 ▸ zR)),fun _=>rfl⟩
 ·intro id' j
  by_cases e0:id'=id
  ·subst e0
   have hn:O (.c id' j)=none:=by
    have:=h.iT id' j
    simp only [bD,bn] at this
    exact this
   have e2:bD (H.set id' (.loop st' lc es)) id' j=.any:=by
    unfold bD
    rw [yS rL]
   rw [e2,hn];rfl
  ·have e1:bT L (w.putObj b (.loop r')) id' j=bT L w id' j:=by
    unfold bT
    split
    ·rename_i k hk
     have FA:k≠b:=by
      rintro rfl
      exact e0 ((acM (aR hk) h.nodup).1 (hk.trans hL.symm))
     simp only [World.cell?]
     rw [gN k FA]
    ·rfl
   have e2:bD (H.set id (.loop st' lc es)) id' j=bD H id' j:=by
    unfold bD
    rw [yQ (fun h'=>e0 h'.symm)]
   rw [e1,e2]
   exact (h.iT id' j).mono fun k hk=>⟨gN k (fun e3=>h.cG _ k hk (e3 ▸ zR)),fun _=>rfl⟩
 ·intro p k hp;simpa using h.fP p k hp
 ·intro k hk;simp at hk;exact h.fresh k hk
 ·exact ⟨Mem.bY M,by simp,rfl,rfl,rfl,fun k hk hA=>⟨gN k (fun e0=>hA (e0 ▸ h.La b zR)),fun _=>rfl⟩,fun k r hk=>by
   by_cases e0:k=b
   ·subst e0
    rw [hc] at hk;cases hk
    exact ⟨r',nZ,q5⟩
   ·exact ⟨r,(gN k e0).trans hk,rfl⟩⟩
def Perm.Xw (A:Perm) (D:Nat):Perm:=⟨fun b=>A b∧b≠D,A.top,A.ok,A.base⟩
def Perm.Le (A' A:Perm):Prop:=A'.top=A.top∧(∀ b,A' b→A b)∧A'.base=A.base
theorem Perm.Le.refl (A:Perm):A.Le A:=⟨rfl,fun _ h=>h,rfl⟩
theorem Perm.Le.trans {A B C:Perm} (h:A.Le B) (k:B.Le C):A.Le C:=⟨h.1.trans k.1,fun b hb=>k.2.1 b (h.2.1 b hb),h.2.2.trans k.2.2⟩
theorem Perm.BF (A:Perm) (D:Nat):(A.Xw D).Le A:=⟨rfl,fun _ h=>h.1,rfl⟩
theorem Perm.Le.iS {A' A:Perm} (h:A'.Le A) (len id:Nat):A'.iS len id=A.iS len id:=by unfold Perm.iS;rw [h.1]
theorem Ext.le {A':Perm} {M':Mem} {w':World} (h:Ext A' M w M' w') (hl:A'.Le A):Ext A M w M' w':=
 ⟨h.mc,h.size,h.os,h.tape,h.output,fun b hb hA=>h.ky b hb fun h'=>hA (hl.2.1 b h'),h.loops⟩
theorem St.le {A':Perm} (h:St A' M L w H ev ea O) (hl:A'.Le A):St A M L w H ev ea O:=
 { h with bI:=fun id o ho=>by rw [← hl.iS];exact h.bI id o ho,La:=fun b hb=>hl.2.1 b (h.La b hb),Oa:=fun p b hp=>hl.2.1 b (h.Oa p b hp),fresh:=fun b hb=>hl.2.1 b (h.fresh b hb) }
theorem St.Xw (h:St A M L w H ev ea O) {D:Nat} (h1:D∉L) (h2:∀ p,O p≠some D) (h3:D < w.heap.size):St (A.Xw D) M L w H ev ea O:=
 { h with
   bI:=fun id o ho=>by rw [(A.BF D).iS];exact h.bI id o ho
   La:=fun b hb=>⟨h.La b hb,fun e=>h1 (e ▸ hb)⟩
   Oa:=fun p b hp=>⟨h.Oa p b hp,fun e=>h2 p (e ▸ hp)⟩
   fresh:=fun b hb=>⟨h.fresh b hb,fun e=>by omega⟩ }
theorem R0.le {A':Perm} {ds:List Deferred} (h:R0 A w ds) (hl:A'.Le A):R0 A' w ds:=⟨by rw [hl.2.2];exact h.1,h.2.1,fun d hd=>by
 obtain ⟨D,h1,h2,h3,h4⟩:=h.2.2 d hd
 exact ⟨D,h1,h2,fun h'=>h3 (hl.2.1 D h'),by rw [hl.2.2];exact h4⟩⟩
end
end Go.aK
end
section
namespace Go.aK
open Go
structure bJ where
 g:Option (Nat×Bool)
 dst:Option Nat
 op:cv
 deriving Inhabited
inductive DT where
 | done
 | take (st:Bool) (o:bJ) (r:DT)
 | br (o:bJ) (t rest:DT)
 | nil
 deriving Inhabited
def inst (il:List bJ):yY→DT
 | .done=>.done
 | .take i st r=>.take st (il.getD i default) (inst il r)
 | .br i t rest=>.br (il.getD i default) (inst il t) (inst il rest)
 | .nil=>.nil
inductive IR where
 | skip
 | region (ops:List bJ) (live:Option (List Nat))
 | draw (t:DT) (live:Option (List Nat))
 | seq (a b:IR)
 | cond (x:IX) (a b:IR)
 | block (id:Nat) (a:IR)
 | loop (a:IR)
 | exit (id:Nat)
 | ret
 | never
 | jS (f:IX) (lc:ju)
 deriving Inhabited
def eZ (live:Option (List Nat)) (env:Env):Env:=
 match live with
 | none=>env
 | some l=>l.map fun t=>(t,get env t)
def jg (env:Env) (g:Nat) (want:Bool) (yes no:Env→Prop):Prop:=
 match get env g with
 | .bool b=>(b=want→yes ((g,.bool want)::env))∧(b=(!want)→no ((g,.bool (!want))::env))
 | .tuple []=>no env
 | _=>False
def tD (P:Px) (o:bJ) (env:Env) (H:List aa) (K:Env→List aa→Prop):Prop:=
 match o.g with
 | none=>bC P o.op o.dst env H K
 | some (g,want)=>jg env g want (fun env=>bC P o.op o.dst env H K) (fun env=>K (put o.dst (.tuple []) env) H)
def kg (P:Px):List bJ→Env→List aa→(Env→List aa→Prop)→Prop
 | [],env,H,K=>K env H
 | o::r,env,H,K=>tD P o env H fun env H=>kg P r env H K
def dm (P:Px) (o:cv) (ρ:IX→AV) (H:List aa) (x:AV):Prop:=
 match o with
 | .set i false=>(ρ i).ab=x
 | .pick c a b=>fy (ρ c) fun q=>(q=true→(ρ a).ab=x)∧(q=false→(ρ b).ab=x)
 | .bin op i j=>dt op (ρ i) (ρ j) fun z=>z=x
 | .shift op i j=>eE op (ρ i) (ρ j) fun z=>z=x
 | .jd neq i j=>dg neq (ρ i) (ρ j) fun z=>z=x
 | .jZ kd neq i=>dz kd neq (ρ i) fun z=>z=x
 | .un op i=>Bl op (ρ i) fun z=>z=x
 | .mR i=>(ρ i).val=true∧.ai (ρ i)=x
 | .build z ps=>cH z.cells (ps.map fun q=>(q.1,q.2.1,ρ q.2.2)) fun v=>v=x
 | .buildSlice own esz z len ps=>bw (List.replicate len (a7 z)) esz (ps.map fun q=>(q.1,ρ q.2)) fun xs=>.al own xs=x
 | .load sz i=>aV sz (ρ i) H fun z=>z=x
 | .nilCheck i=>cj (ρ i) fun z=>z=x
 | .fieldAddr off sz i=>ap off sz (ρ i) fun z=>z=x
 | .field off sz i=>fz off sz (ρ i) fun z=>z=x
 | .indexAddr esz i j=>(∀ own xs,ρ i=.al own xs→∀ z∈xs,z.cells.length=esz)∧aC esz (ρ i) (ρ j) fun z=>z=x
 | .dw i j=>bQ (ρ i) (ρ j) fun z=>z=x
 | .eC n i j=>ch n (ρ i) (ρ j) fun z=>z=x
 | .slice esz i lo hi mx=>bA esz (ρ i) (lo.map ρ) (hi.map ρ) (mx.map ρ) fun z=>z=x
 | .eD i lo hi=>cA (ρ i) (lo.map ρ) (hi.map ρ) fun z=>z=x
 | .len kd i=>aO kd (ρ i)∧fg (ρ i) H fun z=>z=x
 | .lookup kd z m k ok=>cF kd z (ρ m) (ρ k) ok H fun v=>v=x
 | .fn f first cap=>.fn f (first.map fun x=>(ρ x).ab) (cap.map fun x=>(ρ x).ab)=x
 | .extract i k=>bM (ρ i) k fun z=>z=x
 | .call f args none=>match ρ f with
   | .fn (.func g) first cap=>∃ bZ,z5 (first.map AV.ab++(args.map fun x=>(ρ x).ab)++cap.map AV.ab) bZ∧ax P.prog g bZ H (fun r H'=>r=x∧H'=H)
   | _=>False
 | .fm k i=>cN k (ρ i) fun z=>z=x
 | .iA i=>gv (ρ i) fun z=>z=x
 | .bytesOf i=>fF 1 (ρ i) fun z=>z=x
 | .oA esz bytes i=>jQ esz bytes (ρ i) fun z=>z=x
 | .strOf i=>kD (ρ i) fun z=>z=x
 | .mx big i j=>yZ big (ρ i) (ρ j) fun z=>z=x
 | _=>False
def dv (P:Px) (st:Bool) (o:cv) (ρ:IX→AV) (H:List aa) (x:AV):Prop:=
 match st with
 | true=>dm P o ρ H x
 | false=>∀ H',dm P o ρ H' x
def uT (P:Px) (st:Bool) (o:bJ) (env:Env) (H:List aa) (K:Env→Prop):Prop:=
 match o.g with
 | none=>∃ x,dv P st o.op (aq env) H x∧K (put o.dst x env)
 | some (g,want)=>jg env g want (fun _=>∃ x,dv P st o.op (aq env) H x∧K (put o.dst x env)) (fun _=>K (put o.dst (.tuple []) env))
def wg (P:Px):DT→Env→List aa→(Env→List aa→Prop)→Prop
 | .done,env,H,K=>K env H
 | .take st o r,env,H,K=>uT P st o env H fun env=>wg P r env H K
 | .br o t rest,env,H,K=>tD P o env H (fun env H=>wg P t env H K)∧wg P rest env H K
 | .nil,_,_,_=>True
def sle (n0:Nat) (env:Env) (H:List aa) (aL:Env) (H':List aa):Prop:=
 (∀ t,(get env t).le (get aL t))∧(H'=H∨∃ m,n0≤m∧H'=H.take m∧∀ t,(get aL t).bc m=true)
def Jv (n0:Nat) (env:Env) (H:List aa) (aL:Env) (H':List aa):Prop:=
 (∀ t,(get env t).le (get aL t))∧(H'=H∨∃ m,n0≤m∧H'=H.take m∧(∀ id o,n0≤id→id < m→H[id]?=some o→o.bc m=true)∧∀ t,(get aL t).bc m=true)
def Jw (lo:Option Nat) (n0:Nat) (env:Env) (H:List aa) (aL:Env) (H':List aa):Prop:=
 match lo with
 | none=>sle n0 env H aL H'
 | some _=>Jv n0 env H aL H'
def lQ (n:Nat) (env:Env):List AV:=(List.range n).map fun t=>(get env t).ab
def behind (id:Nat) (H':List aa) (K:Option Code→List aa→Prop):Prop:=
 match H'[id]? with
 | some (.loop .ready lc es)=>K none (H'.set id (.loop .ff lc es))
 | some (.loop (.jump c) lc es)=>K (some c) (H'.set id (.loop .ff lc es))
 | _=>False
def qL (j:Option Code) (Q:Exit→Env→List aa→Prop) (env:Env) (H:List aa):Prop:=
 match j with
 | none=>Q .normal env H
 | some .ret=>Q .ret env H
 | some (.exit id)=>Q (.exit id) env H
 | _=>False
def mO (P:Px) (n0:Nat):IR→Env→List aa→(Exit→Env→List aa→Prop)→Prop
 | .skip,env,H,Q=>Q .normal env H
 | .region ops live,env,H,Q=>kg P ops env H fun aL H'=>Q .normal (eZ live aL) H'
 | .draw t live,env,H,Q=>wg P t env H fun aL H'=>Q .normal (eZ live aL) H'
 | .seq a b,env,H,Q=>mO P n0 a env H fun e aL H'=>match e with
   | .normal=>mO P n0 b aL H' Q
   | e=>Q e aL H'
 | .cond x a b,env,H,Q=>fy (aq env x) fun q=>(q=true→mO P n0 a env H Q)∧(q=false→mO P n0 b env H Q)
 | .block id a,env,H,Q=>mO P n0 a env H fun e aL H'=>match e with
   | .exit id'=>if id'=id then Q .normal aL H' else Q (.exit id') aL H'
   | e=>Q e aL H'
 | .loop a,env,H,Q=>∃ (ι:Type) (I:ι→Prop) (se:ι→Env) (sh:ι→List aa) (μ:ι→Nat),(∃ i,I i∧Jw P.lo n0 env H (se i) (sh i))∧
    ∀ i,I i→mO P n0 a (se i) (sh i) fun e aL H'=>match e with
     | .normal=>∃ j,I j∧μ j < μ i∧Jw P.lo n0 aL H' (se j) (sh j)
     | e=>Q e aL H'
 | .exit id,env,H,Q=>Q (.exit id) env H
 | .ret,env,H,Q=>Q .ret env H
 | .never,env,H,Q=>False
 | .jS f lc,env,H,Q=>match aq env f with
   | .fn (.func g) first cap=>(∀ (as:Array Value) (w:World),(callFunc g as).run P.prog w=.ok (.enter g as) w)∧
     ∃ bZ,z5 (first.map AV.ab++[.ou H.length]++cap.map AV.ab) bZ∧dO P g bZ (H++[.loop .ready lc (lQ lc.n env)]) fun _ H'=>behind H.length H' fun j H''=>qL j Q env H''
   | _=>False
def C1.at_ (an:C1) (r i:Nat):Nat:=match an.find? fun x=>x.1 == r && x.2.1 == i with | some x=>x.2.2 | none=>0
def l8.at_ (lv:l8) (r:Nat):Option (List Nat):=(lv.find? fun x=>x.1 == r).map (·.2)
def HY (n:Nat) (o:Oper):Bool:=(match o.dst with | some d=>d < n | none=>true) && (match o.op with | .store .. | .mapUpdate ..=>o.dst.isNone | _=>true)
def HZ (ops:Array Oper) (o:Oper):Option (Option (Nat×Bool)):=
 match o.guard with
 | none=>some none
 | some (j,want)=>match (ops[j]?).bind (·.dst) with
   | some g=>some (some (g,want))
   | none=>none
def H5 (i:IX) (d:Nat):Bool:=match i with | .t s=>decide (s≠d) | _=>true
def TF (P:Program) (ops:Array Oper) (n:Nat) (fl:Nat) (o o':Oper):Option bJ:=
 match fl,o.op,o.dst,o.guard,o'.op,o'.dst,o'.guard with
 | 2,.alloc e,some d,none,.store t (.tmp d') x,none,none=>
   if d=d'∧d < n∧t=e then (match aU x,dX P t,fX P e with
    | some i,some m,some z=>if H5 i d=true∧z.cells.length=m∧z.val=true∧m≠0 then some ⟨none,some d,.tn m i⟩ else none
    | _,_,_=>none) else none
 | _,_,_,_,_,_,_=>none
def fo (P:Program) (ops:Array Oper) (an:C1) (n rid:Nat) (fu:Bool):Nat→Nat→List Oper→Option (List bJ)
 | _,_,[]=>some []
 | 0,_,_=>none
 | fuel + 1,k,o::r=>
   if an.at_ rid k=1000∧fu=true then
    match r with
    | o'::r'=>match TF P ops n 2 o o',fo P ops an n rid fu fuel (k + 2) r' with
      | some x,some xs=>some (x::xs)
      | _,_=>none
    | []=>none
   else
    match HZ ops o,fo P ops an n rid fu fuel (k + 1) r with
    | some g,some xs=>if HY n o=true then some (⟨g,o.dst,Dt P o (an.at_ rid k)⟩::xs) else none
    | _,_=>none
def cv.all:cv→List IX
 | .set i _=>[i]
 | .pick c a b=>[c,a,b]
 | .bin _ i j | .shift _ i j | .jd _ i j | .indexAddr _ i j | .dw i j | .eC _ i j | .lookup _ _ i j _ | .mx _ i j | .store _ i j | .oz _ i j | .append _ _ i j | .j4 _ _ _ i j | .j5 _ _ _ i j | .copy _ i j=>[i,j]
 | .oC _ _ i | .Bj _ i | .jZ _ _ i | .un _ i | .box i | .mR i | .tn _ i | .load _ i | .uH _ _ i | .eX i | .nilCheck i | .fieldAddr _ _ i | .field _ _ i | .len _ i | .uI _ _ _ i | .oA _ _ i | .extract i _ | .fm _ i | .iA i | .bytesOf i | .strOf i=>[i]
 | .fR i s=>[i,.t s]
 | .lJ _ i j k=>[i,j,k]
 | .build _ ps=>ps.map fun q=>q.2.2
 | .buildSlice _ _ _ _ ps | .C6 _ _ _ ps=>ps.map fun q=>q.2
 | .slice _ i lo hi m | .qI _ i lo hi m=>i::(lo.toList++hi.toList++m.toList)
 | .eD i lo hi=>i::(lo.toList++hi.toList)
 | .fn _ first cap=>first++cap
 | .call f args _=>f::args
 | .alloc _ | .oB | .never=>[]
def IX.R7:List IX→List Nat:=fun l=>l.filterMap fun i=>match i with | .t s=>some s | .c _=>none
def cv.kill:cv→List Nat
 | .set (.t s) true=>[s]
 | .fR _ s=>[s]
 | .append _ _ (.t s) _=>[s]
 | .call _ args pass=>(match pass with | some j=>(match args[j]? with | some (.t s)=>[s] | _=>[]) | none=>[])
 | _=>[]
def cv.TG:cv→Bool
 | .box _ | .alloc _ | .eX _ | .store .. | .oz .. | .uH .. | .fR .. | .uI .. | .oB | .lJ .. | .call .. | .copy .. | .Bj .. | .C6 .. | .j4 .. | .j5 .. | .oC .. | .never=>true
 | _=>false
def bJ.lk (o:bJ):List Nat:=IX.R7 o.op.all++(match o.g with | some (g,_)=>[g] | none=>[])
def cv.WR (o:cv) (pure:Bool):Bool:=
 match o with
 | .set _ take=>!take
 | .call _ _ none=>pure
 | .never | .call .. | .append ..=>false
 | .tn ..=>false
 | o=>!o.TG
def cv.z7:cv→Bool
 | .box _ | .alloc _ | .oB=>true
 | _=>false
def cv.stays:cv→Bool
 | .call ..=>false
 | _=>true
def tF (st:Bool) (oi oj:bJ):Bool:=
 (match oi.dst with | some d=>!oj.lk.contains d && oj.dst != some d && !oj.op.kill.contains d | none=>true) &&
 (match oj.dst with | some d=>!oi.lk.contains d | none=>true) &&
 oj.op.kill.all (fun s=>!oi.lk.contains s) && (!st || !oj.op.TG || (oj.op.z7 && oi.op.stays))
def dD (ops:Array Oper):Nat→Nat→Nat→Bool
 | 0,_,_=>false
 | f + 1,j,i=>match ops[j]? with
   | some o=>o.after.any fun e=>Region.binds .any e && (e.on == i || dD ops f e.on i)
   | none=>false
def oL (ops:Array Oper) (il:List bJ) (listed:Array Bool) (i:Nat) (st:Bool):Bool:=
 (List.range ops.size).all fun j=>j == i || listed.getD j true || dD ops ops.size j i || tF st (il.getD i default) (il.getD j default)
def vR (ops:Array Oper) (il:List bJ):Nat→Array Bool→Option (List Nat)→yY→Bool
 | _,listed,none,.done=>(Region.ready .any ops listed).isEmpty
 | f + 1,listed,none,.take i st r=>(Region.ready .any ops listed).contains i && (il.getD i default).op.WR true && oL ops il listed i st && vR ops il f (listed.setIfInBounds i true) none r
 | f + 1,listed,none,.br i t rest=>(match Region.ready .any ops listed with | k::ks=>k == i && vR ops il f (listed.setIfInBounds i true) none t && vR ops il (f + 1) listed (some ks) rest | []=>false)
 | f + 1,listed,some (k::ks),.br i t rest=>k == i && vR ops il f (listed.setIfInBounds i true) none t && vR ops il (f + 1) listed (some ks) rest
 | _,_,some [],.nil=>true
 | _,_,_,_=>false
def kJ:List Edge→Nat
 | []=>0
 | e::r=>if Region.binds .any e=true then (1 <<< e.on) ||| kJ r else kJ r
def iF (rs:List Nat):List Edge→Nat
 | []=>0
 | e::r=>if Region.binds .any e=true∧e.on < rs.length then ((1 <<< e.on) ||| rs.getD e.on 0) ||| iF rs r else iF rs r
def fI:List Oper→List Nat→List Nat
 | [],acc=>acc
 | o::r,acc=>fI r (acc++[iF acc o.after.toList])
def m8 (m:Nat):Nat→List Nat→List Nat
 | _,[]=>[]
 | i,a::r=>if m.testBit i=false∧a &&& m=a then i::m8 m (i + 1) r else m8 m (i + 1) r
def Dx (m i:Nat) (st:Bool) (oi:bJ):Nat→List Nat→List bJ→Bool
 | j,r::rs,o::os=>(j == i || m.testBit j || r.testBit i || tF st oi o) && Dx m i st oi (j + 1) rs os
 | _,_,[]=>true
 | _,[],_::_=>false
def mn (am rm:List Nat) (il:List bJ):Nat→Nat→Option (List Nat)→yY→Bool
 | _,m,none,.done=>(m8 m 0 am).isEmpty
 | f + 1,m,none,.take i st r=>(m8 m 0 am).contains i && (il.getD i default).op.WR true && Dx m i st (il.getD i default) 0 rm il && mn am rm il f (m ||| (1 <<< i)) none r
 | f + 1,m,none,.br i t rest=>(match m8 m 0 am with | k::ks=>k == i && mn am rm il f (m ||| (1 <<< i)) none t && mn am rm il (f + 1) m (some ks) rest | []=>false)
 | f + 1,m,some (k::ks),.br i t rest=>k == i && mn am rm il f (m ||| (1 <<< i)) none t && mn am rm il (f + 1) m (some ks) rest
 | _,_,some [],.nil=>true
 | _,_,_,_=>false
def l9.at_ (pl:l9) (r:Nat):yY:=match pl.find? fun x=>x.1 == r with | some x=>x.2 | none=>.done
def comp (P:Program) (an:C1) (lv:l8) (pl:l9) (n:Nat):Code→Option IR
 | .skip=>some .skip
 | .region id ops false=>(fo P ops an n id true (ops.size + 1) 0 ops.toList).map fun l=>.region l (lv.at_ id)
 | .region id ops true=>match fo P ops an n id false (ops.size + 1) 0 ops.toList with
   | some il=>if P.follows .mixedOrders=true∧mn (ops.toList.map fun o=>kJ o.after.toList) (fI ops.toList []) il ops.size 0 none (pl.at_ id)=true then some (.draw (inst il (pl.at_ id)) (lv.at_ id)) else none
   | none=>none
 | .seq a b=>match comp P an lv pl n a,comp P an lv pl n b with
   | some x,some y=>some (.seq x y)
   | _,_=>none
 | .cond c a b=>match aU c,comp P an lv pl n a,comp P an lv pl n b with
   | some i,some x,some y=>some (.cond i x y)
   | _,_,_=>none
 | .block id a=>(comp P an lv pl n a).map (.block id)
 | .loop a=>(comp P an lv pl n a).map .loop
 | .exit id=>some (.exit id)
 | .ret=>some .ret
 | .rangeFunc f ps as bd=>(aU f).map fun i=>.jS i ⟨n,ps.toList,as,bd,an,lv,pl⟩
 | _=>some .never
theorem gH (n k:Nat):(1 <<< n).testBit k=decide (n=k):=by
 rw [Nat.shiftLeft_eq,Nat.one_mul,Nat.testBit_two_pow]
theorem F4 (m:Nat):∀ (es:List Edge),(kJ es &&& m=kJ es)↔∀ e∈es,Region.binds .any e=true→m.testBit e.on=true:=by
 have key:∀ a:Nat,(a &&& m=a)↔∀ i,a.testBit i=true→m.testBit i=true:=by
  intro a
  constructor
  ·intro h i hi
   rw [← h] at hi
   simp only [Nat.testBit_and,Ot] at hi
   exact hi.2
  ·intro h
   apply Nat.eq_of_testBit_eq
   intro i
   rw [Nat.testBit_and]
   cases ha:a.testBit i with
   | false=>simp
   | true=>simp [h i ha]
 intro es
 rw [key]
 induction es with
 | nil=>simp [kJ]
 | cons e r ih=>
   simp only [kJ]
   split
   ·rename_i hb
    constructor
    ·intro h e' F5 ey
     rcases aai.1 F5 with rfl | F5
     ·exact h _ (by simp [gH])
     ·exact ih.1 (fun i hi=>h i (by simp [hi])) e' F5 ey
    ·intro h i hi
     simp only [Nat.testBit_or,ab8,gH,decide_eq_true_eq] at hi
     rcases hi with rfl | hi
     ·exact h e (by simp) hb
     ·exact ih.2 (fun e' F5 ey=>h e' (aaF _ F5) ey) i hi
   ·rename_i hb
    constructor
    ·intro h e' F5 ey
     rcases aai.1 F5 with rfl | F5
     ·exact absurd ey hb
     ·exact ih.1 h e' F5 ey
    ·intro h
     exact ih.2 (fun e' F5 ey=>h e' (aaF _ F5) ey)
theorem m9 {rs:List Nat} {i:Nat}:∀ {es:List Edge},(iF rs es).testBit i=true→∃ e∈es,Region.binds .any e=true∧e.on < rs.length∧(e.on=i∨(rs.getD e.on 0).testBit i=true)
 | [],h=>by simp [iF] at h
 | e::r,h=>by
   simp only [iF] at h
   split at h
   ·rename_i hb
    simp only [Nat.testBit_or,ab8,gH,decide_eq_true_eq] at h
    rcases h with h | h
    ·exact ⟨e,by simp,hb.1,hb.2,h⟩
    ·obtain ⟨e',F5,h'⟩:=m9 h
     exact ⟨e',aaF _ F5,h'⟩
   ·obtain ⟨e',F5,h'⟩:=m9 h
    exact ⟨e',aaF _ F5,h'⟩
theorem xc:∀ (l:List Oper) (acc:List Nat),∃ r,fI l acc=acc++r∧r.length=l.length
 | [],acc=>⟨[],by simp [fI],rfl⟩
 | o::l,acc=>by
   obtain ⟨r,h1,h2⟩:=xc l (acc++[iF acc o.after.toList])
   exact ⟨iF acc o.after.toList::r,by simp [fI,h1],by simp [h2]⟩
theorem xd:∀ (l:List Oper) (acc:List Nat) (j:Nat) (o:Oper),l[j]?=some o→(fI l acc)[acc.length + j]?=some (iF ((fI l acc).take (acc.length + j)) o.after.toList)
 | [],acc,j,o,h=>by simp at h
 | x::l,acc,0,o,h=>by
   simp at h
   subst h
   simp only [fI]
   obtain ⟨r,h1,h2⟩:=xc l (acc++[iF acc x.after.toList])
   rw [h1]
   simp
 | x::l,acc,j + 1,o,h=>by
   have ih:=xd l (acc++[iF acc x.after.toList]) j o (by simpa using h)
   simp only [fI]
   simp only [aaf,List.length_cons,List.length_nil] at ih
   rw [show acc.length + (j + 1)=acc.length + (0 + 1) + j by omega]
   exact ih
theorem F6 {ops:Array Oper} {i:Nat}:∀ (j f:Nat),j < f→j < ops.size→((fI ops.toList []).getD j 0).testBit i=true→dD ops f j i=true:=by
 intro j
 induction j using Nat.strongRecOn with
 | _ j ih=>
   intro f hf hj h
   have TH:ops[j]?=some ops[j]:=by simp [hj]
   have hg:=xd ops.toList [] j ops[j] (by simp [hj])
   simp only [List.length_nil,abM] at hg
   rw [rB,hg,Option.getD_some] at h
   obtain ⟨e,he,hb,aS,Xh⟩:=m9 h
   have oa:e.on < j:=by simp at aS;omega
   cases f with
   | zero=>omega
   | succ f=>
     simp only [dD,TH]
     rw [Array.any_eq_true']
     refine ⟨e,by simpa using he,?_⟩
     simp only [Ot,ab8,beq_iff_eq]
     refine ⟨hb,?_⟩
     rcases Xh with h1 | h1
     ·exact .inl h1
     ·refine .inr (ih e.on oa f (by omega) (by omega) ?_)
      have:((fI ops.toList []).take j).getD e.on 0=(fI ops.toList []).getD e.on 0:=by
       simp [rB,aax,oa]
      rw [this] at h1
      exact h1
def bitsOf (n:Nat) (listed:Array Bool) (m:Nat):Prop:=listed.size=n∧∀ k,m.testBit k=listed.getD k false
theorem xe {n:Nat} {listed:Array Bool} {m i:Nat} (h:bitsOf n listed m) (hi:i < n):bitsOf n (listed.setIfInBounds i true) (m ||| (1 <<< i)):=by
 obtain ⟨h1,h2⟩:=h
 refine ⟨by simp [h1],fun k=>?_⟩
 rw [Nat.testBit_or,h2 k,gH]
 simp only [abH,ac9]
 by_cases hk:i=k
 ·subst hk
  simp [h1,hi]
 ·simp [hk]
theorem xf {ops:Array Oper} {listed:Array Bool} {m:Nat} (hb:bitsOf ops.size listed m):∀ (l:List Oper) (i:Nat),(∀ j,l[j]?=ops[i + j]?)→
 m8 m i (l.map fun o=>kJ o.after.toList)=(List.range' i l.length).filter fun i=>!listed.getD i true && ((ops[i]?).map (·.after.all fun e=>!Region.binds .any e || listed.getD e.on false)).getD false
 | [],i,_=>by simp [m8]
 | o::l,i,h=>by
   have h0:ops[i]?=some o:=by simpa using (h 0).symm
   have hi:i < ops.size:=(abS.1 h0).1
   have ih:=xf hb l (i + 1) (fun j=>by have:=h (j + 1);simpa [acO,aeW 1 j] using this)
   simp only [List.map_cons,m8,List.length_cons,List.range'_succ,List.filter_cons]
   have e1:(m.testBit i=false)↔(listed.getD i true=false):=by
    rw [hb.2 i]
    have:i < listed.size:=by rw [hb.1];exact hi
    simp [Array.getD,this]
   have e2:(kJ o.after.toList &&& m=kJ o.after.toList)↔(o.after.all fun e=>!Region.binds .any e || listed.getD e.on false)=true:=by
    rw [F4,Array.all_eq_true']
    simp only [Array.mem_toList_iff,ab8,abG,hb.2]
    constructor
    ·intro h e he
     cases hbe:Region.binds .any e with
     | false=>exact .inl rfl
     | true=>exact .inr (h e he hbe)
    ·intro h e he hbe
     rcases h e he with h | h
     ·rw [hbe] at h;cases h
     ·exact h
   by_cases hc:m.testBit i=false∧kJ o.after.toList &&& m=kJ o.after.toList
   ·rw [if_pos hc,if_pos (by rw [h0];simp only [Option.map_some,Option.getD_some,e1.1 hc.1,e2.1 hc.2,Bool.not_false,aco]),ih]
   ·rw [if_neg hc,if_neg (by
     rw [h0]
     simp only [Option.map_some,Option.getD_some,Ot,abG]
     intro h'
     exact hc ⟨e1.2 h'.1,e2.2 h'.2⟩),ih]
theorem tG {ops:Array Oper} {listed:Array Bool} {m:Nat} (hb:bitsOf ops.size listed m):m8 m 0 (ops.toList.map fun o=>kJ o.after.toList)=Region.ready .any ops listed:=by
 rw [xf hb ops.toList 0 (by simp)]
 unfold Region.ready
 simp [List.range_eq_range']
theorem xg {ops:Array Oper} {il:List bJ} {listed:Array Bool} {m i:Nat} {st:Bool} {oi:bJ} (hb:bitsOf ops.size listed m):∀ (rs:List Nat) (os:List bJ) (j:Nat),(∀ k,os[k]?=il[j + k]?)→(∀ k,rs[k]?=(fI ops.toList [])[j + k]?)→Dx m i st oi j rs os=true→
 ∀ k,j≤k→k < ops.size→k < il.length→(k == i || listed.getD k true || dD ops ops.size k i || tF st oi (il.getD k default))=true
 | rs,[],j,h1,_,_,k,R6,_,hk=>by
   have:=h1 (k - j)
   rw [show j + (k - j)=k by omega] at this
   simp at this
   omega
 | [],o::os,j,h1,h2,h,_,_,_,_=>by simp [Dx] at h
 | r::rs,o::os,j,h1,h2,h,k,R6,FV,FY=>by
   simp only [Dx,Ot] at h
   by_cases hk:k=j
   ·subst hk
    have ho:il.getD k default=o:=by
     have:=h1 0
     simp at this
     rw [rB,← this];rfl
    have hr:(fI ops.toList []).getD k 0=r:=by
     have:=h2 0
     simp at this
     rw [rB,← this];rfl
    have h:=h.1
    simp only [ab8] at h ⊢
    rcases h with ((h | h) | h) | h
    ·exact .inl (.inl (.inl h))
    ·refine .inl (.inl (.inr ?_))
     rw [hb.2 k] at h
     have:k < listed.size:=by rw [hb.1];exact FV
     simpa [Array.getD,this] using h
    ·exact .inl (.inr (F6 k _ FV FV (by rw [hr];exact h)))
    ·rw [ho];exact .inr h
   ·exact xg hb rs os (j + 1) (fun q=>by have:=h1 (q + 1);simpa [acO,aeW 1 q] using this) (fun q=>by have:=h2 (q + 1);simpa [acO,aeW 1 q] using this) h.2 k (by omega) FV FY
theorem rY {ops:Array Oper} {listed:Array Bool} {i:Nat} (h:i∈Region.ready .any ops listed):i < ops.size:=by
 unfold Region.ready at h
 simp at h
 exact h.1
theorem Ls {ops:Array Oper} {il:List bJ} (di:il.length=ops.size):∀ (p:yY) (f m:Nat) (listed:Array Bool) (rem:Option (List Nat)),bitsOf ops.size listed m→(∀ ks,rem=some ks→∀ k∈ks,k < ops.size)→
 mn (ops.toList.map fun o=>kJ o.after.toList) (fI ops.toList []) il f m rem p=true→vR ops il f listed rem p=true:=by
 intro p
 induction p with
 | done=>
   intro f m listed rem hb _ h
   cases rem with
   | none=>cases f <;> (simp only [mn,tG hb] at h;simpa [vR] using h)
   | some ks=>cases ks <;> cases f <;> simp [mn] at h
 | nil=>
   intro f m listed rem hb _ h
   cases rem with
   | none=>cases f <;> simp [mn] at h
   | some ks=>cases ks <;> cases f <;> simp [mn] at h <;> simp [vR]
 | take i st r ih=>
   intro f m listed rem hb _ h
   cases rem with
   | some ks=>cases ks <;> cases f <;> simp [mn] at h
   | none=>
     cases f with
     | zero=>simp [mn] at h
     | succ f=>
       simp only [mn,tG hb,Ot] at h
       obtain ⟨⟨⟨h1,h2⟩,h3⟩,h4⟩:=h
       have hi:i < ops.size:=rY (by simpa using h1)
       simp only [vR,Ot]
       refine ⟨⟨⟨h1,h2⟩,?_⟩,ih _ _ _ _ (xe hb hi) (by simp) h4⟩
       unfold oL
       refine abF.2 fun k hk=>?_
       have OP:k < ops.size:=abK.1 hk
       exact xg hb (fI ops.toList []) il 0 (fun k=>by rw [abM]) (fun k=>by rw [abM]) h3 k (acA _) OP (by omega)
 | br i t rest Lt KO=>
   intro f m listed rem hb acD h
   cases f with
   | zero=>cases rem with
     | none=>simp [mn] at h
     | some ks=>cases ks <;> simp [mn] at h
   | succ f=>
     cases rem with
     | none=>
       simp only [mn,tG hb] at h
       simp only [vR]
       split at h
       ·rename_i k ks hr
        simp only [Ot,beq_iff_eq] at h
        obtain ⟨⟨rfl,h1⟩,h2⟩:=h
        have hk:∀ q∈k::ks,q < ops.size:=fun q hq=>rY (by rw [hr];exact hq)
        simp only [Ot,beq_iff_eq,true_and]
        exact ⟨Lt _ _ _ _ (xe hb (hk k (by simp))) (by simp) h1,KO _ _ _ _ hb (fun ks' e q hq=>by cases e;exact hk q (by simp [hq])) h2⟩
       ·cases h
     | some ks=>
       cases ks with
       | nil=>simp [mn] at h
       | cons k ks=>
         simp only [mn,Ot,beq_iff_eq] at h
         obtain ⟨⟨rfl,h1⟩,h2⟩:=h
         have hk:=acD _ rfl
         simp only [vR,Ot,beq_iff_eq,true_and]
         exact ⟨Lt _ _ _ _ (xe hb (hk k (by simp))) (by simp) h1,KO _ _ _ _ hb (fun ks' e q hq=>by cases e;exact hk q (by simp [hq])) h2⟩
theorem Jx (n:Nat):bitsOf n (Array.replicate n false) 0:=⟨by simp,fun k=>by
 simp only [Nat.zero_testBit,abH,ae9]
 split <;> rfl⟩
section
variable {ro:Option Nat} {P:Program} {lo:Option Nat} {A:Perm} {n:Nat} {M:Mem} {L:List Nat} {w:World} {H:List aa} {env:Env} {O:Pos→Option Nat} {a:Act} {ev:Nat→Value} {ea:Nat→AV}
def F7 (A:Perm) (n:Nat) (M0:Mem) (L0:List Nat) (w0:World) (Q:Exit→Env→List aa→Prop) (e:Exit) (a:Act) (w:World):Prop:=
 ∃ A' M L H env O,A'.Le A∧Q e env H∧Fr A' n M L w H env O a∧Ext A M0 w0 M w∧L0 <+: L
theorem Fr.F8 (h:Fr A n M L w H env O a) {aL:Env} (he:get aL=get env):Fr A n M L w H aL O a:=⟨by rw [he];exact h.st,h.size,h.defers⟩
theorem Fr.weaken (h:Fr A n M L w H env O a) {aL:Env} (hl:∀ t,(get env t).le (get aL t)):∃ O',Fr A n M L w H aL O' a:=by
 obtain ⟨O',h'⟩:=h.st.weaken hl
 exact ⟨O',h',h.size,h.defers⟩
theorem le_refl (x:AV):x.le x:=.inl rfl
theorem TI (x:AV):x.le .any:=.inr (.inl rfl)
theorem z8 (live:Option (List Nat)) (env:Env) (t:Nat):(get env t).le (get (eZ live env) t):=by
 cases live with
 | none=>exact le_refl _
 | some l=>
   simp only [eZ]
   induction l with
   | nil=>exact TI _
   | cons s l ih=>
     simp only [List.map_cons,get]
     split
     ·rename_i e;subst e;exact le_refl _
     ·exact ih
theorem get_mem {env:Env} {t:Nat} {x:AV} (h:get env t=x):x=.any∨(t,x)∈env:=by
 induction env with
 | nil=>left;exact h.symm
 | cons p r ih=>
   obtain ⟨k,v⟩:=p
   simp only [get] at h
   split at h
   ·rename_i e;subst e;subst h;right;simp
   ·rcases ih h with h' | h'
    ·exact .inl h'
    ·exact .inr (aaF _ h')
theorem aB (n0:Nat) (env:Env) (H:List aa):sle n0 env H env H:=⟨fun t=>le_refl _,.inl rfl⟩
def fZ (lo:Option Nat) (n0:Nat) (A:Perm):Prop:=(∀ id,id < n0→∃ m,m≤n0∧A.top id=some m)∧match lo with
 | none=>∀ id,n0≤id→A.top id=some (id + 1)
 | some l=>l=n0∧∀ id,n0≤id→A.top id=none
theorem fZ.opens {n0:Nat} (h:fZ lo n0 A):∀ l,lo=some l→∀ id,l≤id→A.top id=none:=by
 rintro l rfl id bn
 obtain ⟨_,rfl,h⟩:=h
 exact h id bn
theorem fZ.low {n0 m:Nat} (h:fZ lo n0 A) (hm:n0≤m) (hs:St A M L w H ev ea O):∀ id o,id < n0→H[id]?=some o→o.bc m=true:=by
 intro id o bn ho
 obtain ⟨k,hk,e⟩:=h.1 id bn
 have:=hs.bI id o ho
 refine aa.cM ?_ o this
 unfold Perm.iS
 rw [e]
 exact abX (aeF _ _) (by omega)
theorem fZ.closed {n0 m:Nat} (h:fZ none n0 A) (hm:n0≤m) (hs:St A M L w H ev ea O):∀ id o,id < m→H[id]?=some o→o.bc m=true:=by
 intro id o bn ho
 by_cases e:id < n0
 ·exact h.low hm hs id o e ho
 ·have e1:=h.2 id (by omega)
  have:=hs.bI id o ho
  refine aa.cM ?_ o this
  unfold Perm.iS
  rw [e1]
  exact abX (aeF _ _) (by omega)
theorem Fr.sle (h:Fr A n M L w H env O a) {aL:Env} {H':List aa} {L0:List Nat} (hA:fZ lo L0.length A) (hL:L0 <+: L) (hl:Jw lo L0.length env H aL H'):∃ L' O',Fr A n M L' w H' aL O' a∧L0 <+: L':=by
 have xh:Jv L0.length env H aL H':=by
  unfold Jw at hl
  split at hl
  ·obtain ⟨h1,h2⟩:=hl
   refine ⟨h1,?_⟩
   rcases h2 with rfl | ⟨m,hm,rfl,hb⟩
   ·exact .inl rfl
   ·exact .inr ⟨m,hm,rfl,fun id o _ bn ho=>hA.closed hm h.st id o bn ho,hb⟩
  ·exact hl
 obtain ⟨h1,h2⟩:=xh
 obtain ⟨O',hf⟩:=h.weaken h1
 rcases h2 with rfl | ⟨m,hm,rfl,hc,hb⟩
 ·exact ⟨L,O',hf,hL⟩
 ·obtain ⟨O'',bX⟩:=hf.st.cut m (fun id o bn ho=>by
   by_cases e:id < L0.length
   ·exact hA.low hm hf.st id o e ho
   ·exact hc id o (by omega) bn ho) hb
  refine ⟨L.take m,O'',⟨bX,hf.size,hf.defers⟩,?_⟩
  obtain ⟨r,rfl⟩:=hL
  exact ⟨r.take (m - L0.length),by rw [afu,aaw hm]⟩
theorem BG {ops:Array Oper} {j g:Nat} (hg:(ops[j]?).bind (·.dst)=some g) (hf:Fr A n M L w H env O a) {b:Bool} (hb:get env g=.bool b):yielded ops a.tmps j=some b:=by
 have hr:=hf.st.env g
 rw [hb] at hr
 generalize hv:a.tmps.getD g undef=v at hr
 cases hr
 have:a.tmps[g]?=some (.bool b):=by
  rw [abH] at hv
  cases h:a.tmps[g]? with
  | none=>rw [h] at hv;cases hv
  | some v=>rw [h] at hv;simp at hv;rw [hv]
 simp [yielded,hg,this]
theorem zk {ops:Array Oper} {j g:Nat} (hg:(ops[j]?).bind (·.dst)=some g) (hf:Fr A n M L w H env O a) (hb:get env g=.tuple []):yielded ops a.tmps j=none:=by
 have hr:=hf.st.env g
 rw [hb] at hr
 generalize hv:a.tmps.getD g undef=v at hr
 cases hr with
 | tuple cs _ h=>
 rw [abH] at hv
 simp only [yielded,hg,Option.bind_some]
 cases h:a.tmps[g]? with
 | none=>rfl
 | some v=>rw [h] at hv;simp at hv;rw [hv]
theorem z9 {ops:Array Oper} {o:Oper} {fl:Nat} {g:Option (Nat×Bool)} (hg:HZ ops o=some g) (gR:HY n o=true) (hp:∀ l,lo=some l→∀ id,l≤id→A.top id=none) (hf:Fr A n M L w H env O a) {K:Env→List aa→Prop} (h:tD ⟨P,lo⟩ ⟨g,o.dst,Dt P o fl⟩ env H K) (Q:Exit→Act→World→Prop) :
 if Region.wanted o (yielded ops a.tmps) then o.wpIn (wf ro) 0 P a w (n7 A n M L w K) Q else n7 A n M L w K (a.put o.dst undef) w:=by
 simp only [HY,Ot] at gR
 have hd:∀ d,o.dst=some d→d < n:=by
  intro d hd
  have:=gR.1
  rw [hd] at this
  simpa using this
 have hn:(match o.op with | .store .. | .mapUpdate ..=>o.dst=none | _=>True):=by
  have:=gR.2
  split at this <;> first | trivial | skip
  ·simpa using this
  ·simpa using this
 unfold HZ at hg
 split at hg
 ·rename_i Ow
  cases hg
  rw [if_pos (by simp [Region.wanted,Ow])]
  exact uS o hp hf hd hn h
 ·rename_i j want Ow
  split at hg <;> cases hg
  rename_i g hgj
  simp only [tD,jg] at h
  split at h
  rotate_left
  ·rename_i hb
   have hy:=zk hgj hf hb
   rw [if_neg (by simp [Region.wanted,Ow,hy])]
   obtain ⟨O',qe⟩:=hf.ow (dst:=o.dst) (v:=undef) (x:=.tuple []) hd (.tuple [] [] .nil) (by intro _ _ e;cases e)
   exact ⟨M,L,H,_,O',h,qe,Ext.refl A M w,aav L⟩
  ·exact h.elim
  rename_i b hb
  have hy:=BG hgj hf hb
  have Xx:get ((g,AV.bool b)::env)=get env:=by
   rw [K6];funext t;simp only [fW];split
   ·rename_i e;rw [e,hb]
   ·rfl
  by_cases hw:b=want
  ·subst hw
   rw [if_pos (by simp [Region.wanted,Ow,hy])]
   exact uS o hp (hf.F8 Xx) hd hn (h.1 rfl)
  ·have H6:b=!want:=by cases b <;> cases want <;> simp_all
   subst H6
   rw [if_neg (by simp [Region.wanted,Ow,hy])]
   obtain ⟨O',qe⟩:=(hf.F8 Xx).ow (dst:=o.dst) (v:=undef) (x:=.tuple []) hd (.tuple [] [] .nil) (by intro _ _ e;cases e)
   exact ⟨M,L,H,_,O',h.2 rfl,qe,Ext.refl A M w,aav L⟩
theorem n7.trans {K K':Env→List aa→Prop} {M':Mem} {L':List Nat} {w':World} {a':Act} {w'':World} (cP:Ext A M w M' w') (hL:L <+: L') (h:n7 A n M' L' w' K a' w''):n7 A n M L w K a' w'':=by
 obtain ⟨M2,L2,H2,dc,O2,h1,h2,h3,h4⟩:=h
 exact ⟨M2,L2,H2,dc,O2,h1,h2,cP.trans h3,hL.trans h4⟩
theorem Dy (w:World) (c c':Array Value) (e:TypeId):({ w with heap:=w.heap.push (.cells c e) }:World).setRow w.heap.size c'={ w with heap:=w.heap.push (.cells c' e) }:=by
 simp only [World.setRow]
 congr 1
 apply Array.ext
 ·simp
 ·intro i h1 h2
  rw [afO]
  by_cases hi:w.heap.size=i
  ·subst hi;simp
  ·simp only [hi,if_false]
   have:i < w.heap.size:=by simp at h2;omega
   rw [ad4 this,ad4 this]
theorem F9 {ops:Array Oper} {o o':Oper} {x:bJ} (hx:TF P ops n 2 o o'=some x) (hf:Fr A n M L w H env O a) {K:Env→List aa→Prop} (h:tD ⟨P,lo⟩ x env H K) (r:List Oper) (Q:Exit→Act→World→Prop)
 (hrest:∀ a' w',n7 A n M L w K a' w'→wpListIn (wf ro) 0 P ops Q r a' w'):wpListIn (wf ro) 0 P ops Q (o::o'::r) a w:=by
 unfold TF at hx
 split at hx <;> try cases hx
 rename_i e d t d' y _ db gR Ow acE Xy acF
 split at hx <;> try cases hx
 rename_i hcond
 obtain ⟨rfl,Xs,rfl⟩:=hcond
 split at hx <;> try cases hx
 rename_i i m z hi hm hz
 split at hx <;> cases hx
 rename_i hcond
 obtain ⟨dJ,eS,qk,Dh⟩:=hcond
 simp only [tD,bC] at h
 obtain ⟨kC,jL,lK,hK⟩:=h
 have hr:=hf.eval hi
 have OV:=hr.gO kC
 have rN:=OV.length
 -- the zero value
 obtain ⟨inf,iC,di⟩:=yR.1 hm
 unfold fX at hz
 simp only [iC] at hz
 split at hz <;> try cases hz
 rename_i zv tw
 have v8:zv.cells.size=m:=by have:=((cV (M:=M) (L:=L) hz).gO qk).length;rw [eS] at this;simpa using this
 have hrun1:(execOp a.eval o).run P w=.ok (.value (.pointer (some ⟨w.heap.size,0,none⟩))) { w with heap:=w.heap.push (.cells zv.cells t) }:=by
  simp only [execOp,db]
  exact bb (by simp only [Instr.alloc,zeroValue,typeInfo,Sem.run_bind,run_program,Result.andThen_ok,iC,Sem.run_pure,tw];rfl)
 have hsize:d < a.tmps.size:=by rw [hf.size];exact Xs
 have Tz:(a.put (some d) (.pointer (some ⟨w.heap.size,0,none⟩))).eval (.tmp d)=.pointer (some ⟨w.heap.size,0,none⟩):=by
  show (a.put (some d) _).tmps.getD d undef=_
  rw [wO a d _ hsize d];simp [fW]
 have acG:(a.put (some d) (.pointer (some ⟨w.heap.size,0,none⟩))).eval y=a.eval y:=by
  cases y with
  | tmp s=>
    simp [aU] at hi;subst hi
    simp [H5] at dJ
    show (a.put (some d) _).tmps.getD s undef=a.tmps.getD s undef
    rw [wO a d _ hsize s];simp [fW,dJ]
  | _=>rfl
 have bX:=run_storeCells_at P w.heap.size 0 t (a.eval y).cells.toList 0 zv.cells { w with heap:=w.heap.push (.cells zv.cells t) } (dW w _) (by simp at rN ⊢;omega) (OV.iz lK)
 have hwhole:(zv.cells.toList.take (0 + 0)++(a.eval y).cells.toList++zv.cells.toList.drop (0 + 0 + (a.eval y).cells.toList.length)).toArray=(a.eval y).cells:=by
  have:zv.cells.toList.drop (0 + 0 + (a.eval y).cells.toList.length)=[]:=afl (by simp at rN ⊢;omega)
  rw [this];simp
 rw [hwhole,Dy] at bX
 have hrun2:(execOp (a.put (some d) (.pointer (some ⟨w.heap.size,0,none⟩))).eval o').run P { w with heap:=w.heap.push (.cells zv.cells t) }=.ok .skip { w with heap:=w.heap.push (.cells (a.eval y).cells t) }:=by
  simp only [execOp,acE,Tz,acG]
  refine rS ?_
  have hs:(sizeOf t).run P { w with heap:=w.heap.push (.cells zv.cells t) }=.ok m { w with heap:=w.heap.push (.cells zv.cells t) }:=by simp [sizeOf,typeInfo,iC,di]
  simp only [Instr.storeAt,Instr.sureAddr,storeVar,Sem.run_bind,Sem.run_pure,Result.andThen_ok,hs,ne_eq]
  rw [if_neg (by simp at rN;omega)]
  exact bX
 obtain ⟨g1,g2,g3⟩:=hf.st.FG (a.eval y).cells t
 have gk:aW (M.add w.heap.size (a.eval y).cells.toList) L (.pointer (some ⟨w.heap.size,0,none⟩)) (.ai (aq env i)):=.ai _ _ _ _ (OV.mono g2.mc (aav _)) g3
 obtain ⟨O',qe⟩:=(hf.mono g1 g2).ow (dst:=some d) (fun d' e=>by cases e;exact Xs) gk (by intro _ _ e;cases e)
 have mq:=hrest _ _ ⟨_,L,H,_,O',hK,qe,g2,aav L⟩
 unfold wpListIn
 rw [if_pos (by simp [Region.wanted,Ow])]
 refine mf hrun1 (by intro d e;cases e) ?_
 rw [Oper.uponIn_value,gR]
 unfold wpListIn
 rw [if_pos (by simp [Region.wanted,acF])]
 refine mf hrun2 (by intro d e;cases e) ?_
 rw [Oper.uponIn_skip,Xy]
 exact mq
theorem qM {ops:Array Oper} {an:C1} {rid:Nat} {fu:Bool} (hp:∀ l,lo=some l→∀ id,l≤id→A.top id=none) (Q:Exit→Act→World→Prop):∀ (fuel k:Nat) (l:List Oper) (il:List bJ),fo P ops an n rid fu fuel k l=some il→∀ {M:Mem} {L:List Nat} {w:World} {H:List aa} {env:Env} {O:Pos→Option Nat} {a:Act} (K:Env→List aa→Prop),
 Fr A n M L w H env O a→kg ⟨P,lo⟩ il env H K→(∀ a' w',n7 A n M L w K a' w'→Q .normal a' w')→wpListIn (wf ro) 0 P ops Q l a w
 | _,_,[],il,hc,M,L,w,H,env,O,a,K,hf,h,hQ=>by
   unfold fo at hc
   cases hc
   exact hQ a w ⟨M,L,H,env,O,h,hf,Ext.refl A M w,aav L⟩
 | 0,_,o::r,il,hc,_,_,_,_,_,_,_,_,_,_,_=>by simp [fo] at hc
 | fuel + 1,k,o::r,il,hc,M,L,w,H,env,O,a,K,hf,h,hQ=>by
   unfold fo at hc
   split at hc
   ·-- a new variable with its first value
    split at hc <;> try cases hc
    rename_i o' r'
    split at hc <;> cases hc
    rename_i x xs hx fx
    simp only [kg] at h
    refine F9 hx hf h r' Q ?_
    rintro a' w' ⟨M',L',H',aL,O',k1,k2,k3,k4⟩
    exact qM hp Q fuel (k + 2) r' xs fx K k2 k1 (fun a2 w2 h2=>hQ a2 w2 (n7.trans (K':=K) k3 k4 h2))
   ·split at hc <;> try cases hc
    rename_i g xs hg fx
    split at hc <;> cases hc
    rename_i gR
    simp only [kg] at h
    have h1:=z9 (ro:=ro) (ops:=ops) hg gR hp hf h Q
    have hrest:∀ a' w',n7 A n M L w (fun env H=>kg ⟨P,lo⟩ xs env H K) a' w'→wpListIn (wf ro) 0 P ops Q r a' w':=by
     rintro a' w' ⟨M',L',H',aL,O',k1,k2,k3,k4⟩
     exact qM hp Q fuel (k + 1) r xs fx K k2 k1 (fun a2 w2 h2=>hQ a2 w2 (n7.trans (K':=K) k3 k4 h2))
    unfold wpListIn
    split
    ·rename_i hw
     rw [if_pos hw] at h1
     exact Oper.wpIn_mono hrest h1
    ·rename_i hw
     rw [if_neg hw] at h1
     exact ⟨fun _ _=>trivial,hrest _ _ h1⟩
theorem F7.trans {A':Perm} {M0 M1:Mem} {L0:List Nat} {w0 w1:World} {Q:Exit→Env→List aa→Prop} {e:Exit} {a:Act} {w:World} (hl:A'.Le A) (hx:Ext A M0 w0 M1 w1) (hp:F7 A' n M1 L0 w1 Q e a w):F7 A n M0 L0 w0 Q e a w:=by
 obtain ⟨A2,M,L,H,env,O,hA,h1,h2,h3,h4⟩:=hp
 exact ⟨A2,M,L,H,env,O,hA.trans hl,h1,h2,hx.trans (h3.le hl),h4⟩
theorem fZ.le {n0:Nat} {A':Perm} (h:fZ lo n0 A) (hl:A'.Le A):fZ lo n0 A':=by
 unfold fZ at *
 rw [hl.1]
 exact h
def Own (ro:Option Nat) (w:World):Prop:=∀ l,ro=some l→∃ r,w.heap[l]?=some (.loop r)
theorem Own.ext {M':Mem} {w':World} (h:Own ro w) (hx:Ext A M w M' w'):Own ro w':=fun l hl=>by
 obtain ⟨r,hr⟩:=h l hl
 obtain ⟨r',hr',_⟩:=hx.loops l r hr
 exact ⟨r',hr'⟩
theorem Jy (p:Nat→Prop) (h:∃ k,p k):∃ k,p k∧∀ j,p j→k≤j:=by
 obtain ⟨k,hk⟩:=h
 induction k using Nat.strongRecOn with
 | _ k ih=>
   by_cases hl:∃ j,j < k∧p j
   ·obtain ⟨j,hj,hp⟩:=hl
    exact ih j hj hp
   ·exact ⟨k,hk,fun j hj=>by
     rcases aeG j k with h' | h'
     ·exact absurd ⟨j,h',hj⟩ hl
     ·exact h'⟩
theorem BH {F:Fence} {k:Nat} {c:Code} {Q:Exit→Act→World→Prop} {w:World} {a:Act} {ι:Type} (I:ι→Act→World→Prop) (μ:ι→Nat)
 (round:∀ i a w,I i a w→c.wpIn F k P (Exit.then (fun a' w'=>∃ j,I j a' w'∧μ j < μ i) Q) a w) (i0:ι) (h0:I i0 a w):(Code.loop c).wpIn F k P Q a w:=by
 let p:Act→World→Nat→Prop:=fun a w k=>∃ i,I i a w∧μ i=k
 let ν:Act→World→Nat:=fun a w=>Classical.epsilon fun k=>p a w k∧∀ j,p a w j→k≤j
 have hν:∀ a w,(∃ i,I i a w)→p a w (ν a w)∧∀ j,p a w j→ν a w≤j:=by
  rintro a w ⟨i,hi⟩
  exact Classical.epsilon_spec (Jy (p a w) ⟨μ i,i,hi,rfl⟩)
 refine wpIn_loop (fun a w=>∃ i,I i a w) ν ⟨i0,h0⟩ ?_
 intro a w hI
 obtain ⟨⟨i,hi,hμ⟩,_⟩:=hν a w hI
 refine Go.wpIn_mono (round i a w hi) ?_
 intro e a' w' h
 cases e with
 | normal=>
   obtain ⟨j,hj,aS⟩:=h
   refine ⟨⟨j,hj⟩,?_⟩
   have:=(hν a' w' ⟨j,hj⟩).2 (μ j) ⟨j,hj,rfl⟩
   omega
 | _=>exact h
def Aa (P:Program) (ro lo:Option Nat) (A:Perm) (n:Nat) (L0:List Nat):Prop:=
 ∀ {id:Nat} {ops:Array Oper} {il:List bJ} {p:yY} {live:Option (List Nat)} {an:C1} {M:Mem} {L:List Nat} {w:World} {H:List aa} {env:Env} {O:Pos→Option Nat} {a:Act} {M0:Mem} {w0:World} {Q:Exit→Env→List aa→Prop},
  P.follows .mixedOrders=true→mn (ops.toList.map fun o=>kJ o.after.toList) (fI ops.toList []) il ops.size 0 none p=true→fo P ops an n id false (ops.size + 1) 0 ops.toList=some il→mO ⟨P,lo⟩ L0.length (.draw (inst il p) live) env H Q→Fr A n M L w H env O a→Ext A M0 w0 M w→L0 <+: L→(Code.region id ops true).wpIn (wf ro) 0 P (F7 A n M0 L0 w0 Q) a w
theorem Dz {L0:List Nat} (hA:fZ lo L0.length A) {f:Operand} {ps:Array Tmp} {as bd:Code} {an:C1} {lv:l8} {pl:l9} {i:IX} (hi:aU f=some i) {Q:Exit→Env→List aa→Prop}
 (yU:Own ro w) (h:mO ⟨P,lo⟩ L0.length (.jS i ⟨n,ps.toList,as,bd,an,lv,pl⟩) env H Q) (hf:Fr A n M L w H env O a) (hL:L0 <+: L):(Code.rangeFunc f ps as bd).wpIn (wf ro) 0 P (F7 A n M L0 w Q) a w:=by
 have Ov:=hf.eval hi
 simp only [mO] at h
 split at h <;> try exact h.elim
 rename_i g first cap Xu
 obtain ⟨hcf,bZ,hle,hcall⟩:=h
 rw [Xu] at Ov
 generalize hu:a.eval f=u at Ov
 cases Ov with
 | fn _ fs cs _ _ qp oq=>
 refine wpIn_rangeFunc fun fn _=>?_
 -- the record
 have enter:∃ (l:Nat) (mark:List Deferred) (w1:World) (A1:Perm),(Instr.enterLoop fn a.tmps ps as bd ro).run P w=.ok (l,mark) w1∧A1.Le A∧
  Fr A1 n M (L++[l]) w1 (H++[.loop .ready ⟨n,ps.toList,as,bd,an,lv,pl⟩ (lQ n env)]) env O { a with defers:=mark++a.defers }∧Ext A M w M w1:=by
  have Bw:aP M L a.tmps.toList (lQ n env):=by
   refine aP.Bg (by simp [lQ,hf.size]) fun j x hx=>?_
   simp only [lQ,abW] at hx
   obtain ⟨t,ht,rfl⟩:=yR.1 hx
   obtain ⟨mU,rfl⟩:=aaJ.1 ht
   simp only [List.length_range] at mU
   simp only [List.getElem_range]
   have:=(hf.st.env j).ab
   refine ⟨a.tmps.getD j undef,?_,this⟩
   rw [abH,ado,ady (by rw [hf.size];exact mU)]
   rfl
  have me:(aa.loop .ready ⟨n,ps.toList,as,bd,an,lv,pl⟩ (lQ n env)).bc (H.length + 1)=true:=by
   simp only [aa.bc]
   have:=Bw.O9
   rw [hf.st.len] at this
   exact bE (by omega) _ this
  cases ro with
  | none=>
    have hg:=hf.st.grow (w':={ w with heap:=w.heap.push (.deferred (some [])) }) (Mem.bY M) (fun b o v hv=>by
     have h1:=hf.st.mem b o v hv
     simp only [World.cell?] at h1 ⊢
     cases hb:w.heap[b]? with
     | none=>rw [hb] at h1;simp at h1
     | some ob=>rw [eU w _ (abS.1 hb).1];exact h1) (by simp) (fun b hb=>eU w _ hb) (fun _ _ _=>rfl)
    have uU:Ext A M w M { w with heap:=w.heap.push (.deferred (some [])) }:=Ext.grow (Mem.bY M) (by simp) rfl rfl rfl (fun b hb=>eU w _ hb) (fun _ _ _=>rfl)
    have hb:=hg.Xw (D:=w.heap.size) (fun hm=>by have:=hf.st.lt _ hm;omega) (fun p hp=>by have:=hf.st.fP _ _ hp;omega) (by simp)
    obtain ⟨g1,g2⟩:=hb.th (.loop { state:=.ready,pending:=none,fn,tmps:=a.tmps,params:=ps,assign:=as,body:=bd,defers:=w.heap.size }) (.loop .ready ⟨n,ps.toList,as,bd,an,lv,pl⟩ (lQ n env))
     (fun w' Lh _=>⟨_,Lh,(afN).symm,rfl,rfl,Bw.mono (Mem.bY M) ⟨_,rfl⟩,rfl,rfl⟩) me (fun j=>rfl)
    refine ⟨w.heap.size + 1,_,_,A.Xw w.heap.size,run_enterLoop_outer _ _ _ _ _,A.BF _,⟨?_,hf.size,?_⟩,?_⟩
    ·have e1:({ w with heap:=w.heap.push (.deferred (some [])) }:World).heap.size=w.heap.size + 1:=by simp
     rw [e1] at g1
     exact g1
    ·have old:=((hf.defers.ext uU).le (A.BF w.heap.size)).ext g2
     refine ⟨old.1,?_,fun d hd=>?_⟩
     ·show (_::a.defers).Nodup
      rw [List.nodup_cons]
      refine ⟨fun hm=>?_,old.2.1⟩
      obtain ⟨D,e,hD,_⟩:=hf.defers.2.2 _ hm
      cases e
      have:=(abS.1 hD).1
      omega
     rcases abJ.1 hd with hd | hd
     ·rw [aaB] at hd
      subst hd
      refine ⟨w.heap.size,rfl,?_,(fun h=>h.2 rfl),(show A.base≤w.heap.size from hf.defers.1)⟩
      show ((w.heap.push _).push _)[w.heap.size]?=_
      rw [Array.getElem?_push_lt (by simp)]
      simp
     ·exact old.2.2 d hd
    ·exact uU.trans (g2.le (A.BF _))
  | some l0=>
    obtain ⟨r0,hr0⟩:=yU l0 rfl
    obtain ⟨g1,g2⟩:=hf.st.th (.loop { state:=.ready,pending:=none,fn,tmps:=a.tmps,params:=ps,assign:=as,body:=bd,defers:=r0.defers }) (.loop .ready ⟨n,ps.toList,as,bd,an,lv,pl⟩ (lQ n env))
     (fun w' Lh _=>⟨_,Lh,(afN).symm,rfl,rfl,Bw.mono (Mem.bY M) ⟨_,rfl⟩,rfl,rfl⟩) me (fun j=>rfl)
    exact ⟨w.heap.size,[],_,A,run_enterLoop_inner hr0 _ _ _ _ _,Perm.Le.refl A,⟨g1,hf.size,by simpa using hf.defers.ext g2⟩,g2⟩
 obtain ⟨l,mark,w1,A1,he,Ga,FB,uU⟩:=enter
 have H7:L.length=H.length:=hf.st.len
 have vS:(L++[l])[H.length]?=some l:=by rw [← H7];simp
 have TJ:fZ lo L0.length A1:=hA.le Ga
 obtain ⟨loose,vL,hcall⟩:∃ loose:Bool,(loose=true→∀ id,(H++[aa.loop .ready ⟨n,ps.toList,as,bd,an,lv,pl⟩ (lQ n env)]).length≤id→A1.top id=none)∧
  lO loose P g bZ (H++[.loop .ready ⟨n,ps.toList,as,bd,an,lv,pl⟩ (lQ n env)]) fun _ H'=>behind H.length H' fun j H''=>qL j Q env H'':=by
  unfold dO at hcall
  split at hcall
  ·exact ⟨false,by simp,hcall⟩
  ·rename_i l' xh
   rcases hcall with hcall | ⟨h1,hcall⟩
   ·exact ⟨false,by simp,hcall⟩
   ·exact ⟨true,fun _ id bn=>TJ.opens l' xh id (by omega),hcall⟩
 have hry:aP M (L++[l]) (fs++[.func (.yield l) #[] #[]]) (first++[.ou H.length]):=
  (qp.mono (Mem.bY M) ⟨_,rfl⟩).append (.one (.ou l _ vS))
 obtain ⟨Oc,rN,bX,fin⟩:=tB (o:=(⟨none,.move f,0, "",#[],none⟩:Oper)) (K:=fun aL H'=>aL=env∧behind H.length H' fun j H''=>qL j Q env H'') (xs:=[]) (js:=[]) rfl (pass:=none) hry (oq.mono (Mem.bY M) ⟨[l],rfl⟩)
  (by simpa [aN,AV.ab] using hle) FB (fun d e=>by cases e) vL
 obtain ⟨vs,zc⟩:∃ vs:List Value,vs=fs++[.func (.yield l) #[] #[]]++cs:=⟨_,rfl⟩
 simp only [List.map_nil,abQ] at rN bX
 rw [← zc] at rN bX
 refine ⟨l,mark,w1,{ target:=.fn (.func g) cs.toArray,args:=fs.toArray++#[.func (.yield l) #[] #[]] },w1,g,vs.toArray,w1,he,?_,fun _ _=>trivial,?_,(fun h=>by cases h),?_⟩
 ·have ec:a.eval (.const (.func (.yield l) #[] #[]))=.func (.yield l) #[] #[]:=rfl
  simp [resolve,hu,Deferred.ofValue,ec]
 ·have e1:(fs.toArray++#[.func (.yield l) #[] #[]]++cs.toArray:Array Value)=vs.toArray:=by
   apply Array.ext';simp [zc]
  simp only [invoke]
  rw [e1]
  exact hcf _ _
 ·rcases hcall (dI A1 loose (H++[aa.loop .ready ⟨n,ps.toList,as,bd,an,lv,pl⟩ (lQ n env)]) (L++[l]) Oc w1) M (L++[l]) w1 vs.toArray Oc (lP A1 loose _ _ Oc w1) (by simpa using rN) bX with ⟨_,hc⟩ | ⟨v,w',r,H',M',L',O',h1,_⟩
  ·have mW:CallsIn (wf ro) (0 - 1) P g vs.toArray w1 _:=callsIn_wide.2 hc
   refine CallsIn.mono mW fun e w' he=>?_
   obtain ⟨v,r,H',M',L',O',rfl,hK,mX,cP,Xz⟩:=he
   obtain ⟨M2,L2,H2,dc,O2,⟨rfl,hb⟩,uQ,R8,TK⟩:=fin v r H' M' L' O' w' ⟨rfl,hK⟩ mX cP Xz
   have pr:L2[H.length]?=some l:=gL TK vS
   have mQ:L0 <+: L2:=hL.trans ((List.prefix_append L [l]).trans TK)
   unfold behind at hb
   split at hb
   ·rename_i lc es Gb
    obtain ⟨r,q1,q2,q3,q4,q5,q6⟩:=uQ.st.obj _ _ l Gb pr
    obtain ⟨k1,k2⟩:=uQ.st.px (st':=.ff) (r':={ r with state:=.exhausted }) Gb pr (fun r2 oq=>by rw [q1] at oq;cases oq;exact ⟨rfl,rfl,rfl,rfl,rfl,trivial⟩)
    exact ⟨none,_,(run_endLoop q1 (by rw [q6.1];simp)).trans (congrArg (fun p=>Result.ok p _) q6.2),A1,M2,L2,_,dc,O2,Ga,hb,⟨k1,uQ.size,uQ.defers.ext k2⟩,uU.trans ((R8.trans k2).le Ga),mQ⟩
   ·rename_i c lc es Gb
    obtain ⟨r,q1,q2,q3,q4,q5,q6⟩:=uQ.st.obj _ _ l Gb pr
    obtain ⟨k1,k2⟩:=uQ.st.px (st':=.ff) (r':={ r with state:=.exhausted }) Gb pr (fun r2 oq=>by rw [q1] at oq;cases oq;exact ⟨rfl,rfl,rfl,rfl,rfl,trivial⟩)
    refine ⟨some c,_,(run_endLoop q1 (by rw [q6.1];simp)).trans (congrArg (fun p=>Result.ok p _) q6.2),?_⟩
    unfold qL at hb
    split at hb
    ·rename_i e;cases e
    ·rename_i e;cases e
     exact wpIn_ret ⟨A1,M2,L2,_,dc,O2,Ga,hb,⟨k1,uQ.size,uQ.defers.ext k2⟩,uU.trans ((R8.trans k2).le Ga),mQ⟩
    ·rename_i e;cases e
     exact wpIn_exit ⟨A1,M2,L2,_,dc,O2,Ga,hb,⟨k1,uQ.size,uQ.defers.ext k2⟩,uU.trans ((R8.trans k2).le Ga),mQ⟩
    ·exact hb.elim
   ·exact hb.elim
  ·rw [hcf] at h1;cases h1
theorem sound {L0:List Nat} (hdraw:∀ A,fZ lo L0.length A→Aa P ro lo A n L0) {an:C1} {lv:l8} {pl:l9}:∀ (c:Code) (ir:IR),comp P an lv pl n c=some ir→∀ {A:Perm} {M:Mem} {L:List Nat} {w:World} {H:List aa} {env:Env} {O:Pos→Option Nat} {a:Act} {Q:Exit→Env→List aa→Prop},
 fZ lo L0.length A→Own ro w→mO ⟨P,lo⟩ L0.length ir env H Q→Fr A n M L w H env O a→L0 <+: L→c.wpIn (wf ro) 0 P (F7 A n M L0 w Q) a w:=by
 intro c
 induction c with
 | skip=>
   intro ir hc A M L w H env O a Q hA yU h hf hL
   simp only [comp] at hc;cases hc
   exact wpIn_skip ⟨A,M,L,H,env,O,.refl A,h,hf,Ext.refl A M w,hL⟩
 | exit id=>
   intro ir hc A M L w H env O a Q hA yU h hf hL
   simp only [comp] at hc;cases hc
   exact wpIn_exit ⟨A,M,L,H,env,O,.refl A,h,hf,Ext.refl A M w,hL⟩
 | ret=>
   intro ir hc A M L w H env O a Q hA yU h hf hL
   simp only [comp] at hc;cases hc
   exact wpIn_ret ⟨A,M,L,H,env,O,.refl A,h,hf,Ext.refl A M w,hL⟩
 | region id ops draw=>
   intro ir hc A M L w H env O a Q hA yU h hf hL
   cases draw with
   | true=>
     simp only [comp] at hc
     split at hc <;> try cases hc
     rename_i il y8
     split at hc <;> cases hc
     rename_i hm
     exact hdraw A hA hm.1 hm.2 y8 h hf (Ext.refl A M w) hL
   | false=>
     simp only [comp] at hc
     obtain ⟨il,y8,rfl⟩:=yR.1 hc
     simp only [mO] at h
     refine wpIn_region_list (qM hA.opens _ _ _ _ _ y8 _ hf h ?_)
     rintro a' w' ⟨M',L',H',aL,O',h1,h2,h3,h4⟩
     obtain ⟨O'',h5⟩:=h2.weaken (z8 (lv.at_ id) aL)
     exact ⟨A,M',L',H',_,O'',.refl A,h1,h5,h3,hL.trans h4⟩
 | seq x y ihx ihy=>
   intro ir hc A M L w H env O a Q hA yU h hf hL
   simp only [comp] at hc
   split at hc <;> cases hc
   rename_i x' y' hx hy
   simp only [mO] at h
   refine wpIn_seq (Go.wpIn_mono (ihx _ hx hA yU h hf hL) ?_)
   rintro e a' w' ⟨A',M',L',H',aL,O',hl,h1,h2,h3,h4⟩
   cases e with
   | normal=>exact Go.wpIn_mono (ihy _ hy (hA.le hl) (yU.ext h3) h1 h2 h4) fun e a w hp=>hp.trans hl h3
   | _=>exact ⟨A',M',L',H',aL,O',hl,h1,h2,h3,h4⟩
 | cond x c d ihc ihd=>
   intro ir hc A M L w H env O a Q hA yU h hf hL
   simp only [comp] at hc
   split at hc <;> cases hc
   rename_i i c' d' hi Jz hd'
   simp only [mO] at h
   obtain ⟨q,hq,h⟩:=pw h
   have hr:=hf.eval hi
   rw [hq] at hr
   generalize hu:a.eval x=u at hr
   cases hr
   refine wpIn_cond_split hu (fun e=>ihc _ Jz hA yU (h.1 e) hf hL) (fun e=>ihd _ hd' hA yU (h.2 e) hf hL)
 | block id c ih=>
   intro ir hc A M L w H env O a Q hA yU h hf hL
   simp only [comp] at hc
   obtain ⟨c',Jz,rfl⟩:=yR.1 hc
   simp only [mO] at h
   refine wpIn_block (Go.wpIn_mono (ih _ Jz hA yU h hf hL) ?_)
   rintro e a' w' ⟨A',M',L',H',aL,O',hl,h1,h2,h3,h4⟩
   cases e with
   | exit id'=>
     simp only [Exit.inBlock]
     simp only at h1
     split at h1
     ·rename_i e;rw [if_pos e];exact ⟨A',M',L',H',aL,O',hl,h1,h2,h3,h4⟩
     ·rename_i e;rw [if_neg e];exact ⟨A',M',L',H',aL,O',hl,h1,h2,h3,h4⟩
   | _=>exact ⟨A',M',L',H',aL,O',hl,h1,h2,h3,h4⟩
 | loop c ih=>
   intro ir hc A M L w H env O a Q hA yU h hf hL
   simp only [comp] at hc
   obtain ⟨c',Jz,rfl⟩:=yR.1 hc
   simp only [mO] at h
   obtain ⟨ι,I,se,sh,μ,⟨i0,we,hs0⟩,hround⟩:=h
   obtain ⟨L',O',qe,Xz⟩:=hf.sle hA hL hs0
   refine BH (fun i a' w'=>I i∧∃ A' M' L' O',A'.Le A∧Fr A' n M' L' w' (sh i) (se i) O' a'∧Ext A M w M' w'∧L0 <+: L') μ ?_ i0 ⟨we,A,M,L',O',.refl A,qe,Ext.refl A M w,Xz⟩
   rintro i a1 w1 ⟨hi,A1,M1,L1,O1,vS,FB,uU,R9⟩
   refine Go.wpIn_mono (ih _ Jz (hA.le vS) (yU.ext uU) (hround i hi) FB R9) ?_
   rintro e a' w' ⟨A',M',L',H',aL,O',hl,h1,h2,h3,h4⟩
   cases e with
   | normal=>
     obtain ⟨j,hj,aS,hs⟩:=h1
     obtain ⟨L2,O2,uQ,TK⟩:=h2.sle ((hA.le vS).le hl) h4 hs
     exact ⟨j,⟨hj,A',M',L2,O2,hl.trans vS,uQ,uU.trans (h3.le vS),TK⟩,aS⟩
   | _=>exact ⟨A',M',L',H',aL,O',hl.trans vS,h1,h2,uU.trans (h3.le vS),h4⟩
 | rangeFunc f ps as bd=>
   intro ir hc A M L w H env O a Q hA yU h hf hL
   simp only [comp] at hc
   obtain ⟨i,hi,rfl⟩:=yR.1 hc
   exact Dz hA hi yU h hf hL
 | _=>
   intro ir hc A M L w H env O a Q hA yU h
   simp only [comp] at hc
   cases hc
   exact h.elim
end
end Go.aK
end
section
namespace Go.aK
open Go
section
variable {φ ψ:AV→Prop} (hm:∀ z,φ z→ψ z)
include hm
theorem tH {op:BinOp} {x y:AV} (h:dt op x y φ):dt op x y ψ:=by
 unfold dt at *
 split at h <;> (try exact h.elim)
 ·obtain ⟨h0,h⟩:=h
  refine ⟨h0,?_⟩
  split at h <;> first | exact hm _ h | exact ⟨h.1,hm _ h.2⟩ | exact h.elim
 ·split at h <;> first | exact hm _ h | exact ⟨h.1,hm _ h.2⟩ | exact h.elim
theorem oM {op:BinOp} {x y:AV} (h:eE op x y φ):eE op x y ψ:=by
 unfold eE at *
 split at h <;> (try exact h.elim)
 obtain ⟨h0,h⟩:=h
 refine ⟨h0,?_⟩
 split at h <;> first | exact hm _ h | exact h.elim
theorem nc {neq:Bool} {x y:AV} (h:dg neq x y φ):dg neq x y ψ:=by
 unfold dg at *
 split at h <;> first | exact hm _ h | exact h.elim
theorem uV {kd:Nat} {neq:Bool} {x:AV} (h:dz kd neq x φ):dz kd neq x ψ:=by
 unfold dz at *
 split at h
 ·exact hm _ h
 ·split at h
  ·exact ⟨hm _ h.1,hm _ h.2⟩
  ·exact h.elim
theorem xi {op:UnOp} {x:AV} (h:Bl op x φ):Bl op x ψ:=by
 unfold Bl at *
 split at h <;> first | exact hm _ h | exact h.elim
theorem kK {sz:Option Nat} {x:AV} {H:List aa} (h:aV sz x H φ):aV sz x H ψ:=by
 unfold aV at *
 split at h <;> (try exact h.elim) <;> (split at h <;> (try exact h.elim)) <;> first | exact ⟨h.1,hm _ h.2⟩ | (split at h <;> exact ⟨h.1,hm _ h.2⟩)
theorem oN {off:Nat} {sz:Option Nat} {x:AV} (h:fz off sz x φ):fz off sz x ψ:=by
 unfold fz apart at *
 split at h <;> (try exact h.elim)
 split at h <;> first | exact ⟨h.1,hm _ h.2⟩ | exact ⟨h.1,h.2.1,hm _ h.2.2⟩
theorem jT {off:Nat} {sz:Option Nat} {x:AV} (h:ap off sz x φ):ap off sz x ψ:=by
 unfold ap apart at *
 split at h <;> (try exact h.elim)
 ·exact hm _ h
 ·split at h <;> first | exact ⟨h.1,hm _ h.2⟩ | exact ⟨h.1,h.2.1,hm _ h.2.2⟩
theorem jU {esz:Nat} {x i:AV} (h:aC esz x i φ):aC esz x i ψ:=by
 unfold aC at *
 split at h <;> first | exact ⟨h.1,h.2.1,hm _ h.2.2⟩ | exact h.elim
theorem kL {x i:AV} (h:bQ x i φ):bQ x i ψ:=by
 unfold bQ at *
 split at h <;> first | exact ⟨h.1,h.2.1,hm _ h.2.2⟩ | exact h.elim
theorem kM {n:Nat} {x i:AV} (h:ch n x i φ):ch n x i ψ:=by
 unfold ch at *
 split at h <;> first | exact ⟨h.1,h.2.1,h.2.2.1,hm _ h.2.2.2⟩ | exact h.elim
theorem tI {x:AV} {H:List aa} (h:fg x H φ):fg x H ψ:=by
 unfold fg at *
 split at h <;> (try exact h.elim) <;> (try exact hm _ h)
 ·exact fun hl=>hm _ (h hl)
 ·split at h <;> first | exact hm _ h | exact h.elim
theorem lR {x:AV} {i:Nat} (h:bM x i φ):bM x i ψ:=by
 unfold bM at *
 split at h <;> first | exact ⟨h.1,hm _ h.2⟩ | exact h.elim
theorem kN {x:AV} (h:cj x φ):cj x ψ:=by
 unfold cj at *
 split at h <;> first | exact hm _ h | exact h.elim
theorem lS {k:IntKind} {x:AV} (h:cN k x φ):cN k x ψ:=by
 unfold cN at *
 split at h <;> first | exact hm _ h | exact h.elim
theorem xj {big:Bool} {x y:AV} (h:yZ big x y φ):yZ big x y ψ:=by
 unfold yZ at *
 split at h <;> first | exact hm _ h | exact h.elim
theorem qq {x:AV} (h:gv x φ):gv x ψ:=by
 unfold gv at *
 split at h <;> first | exact hm _ h | exact h.elim
theorem qt {own:Nat} {x:AV} (h:fF own x φ):fF own x ψ:=by
 unfold fF at *
 split at h <;> first | exact ⟨h.1,hm _ h.2⟩ | exact h.elim
theorem uW {x:AV} (h:kD x φ):kD x ψ:=by
 unfold kD at *
 split at h <;> first | exact hm _ h | exact ⟨_,h.choose_spec.1,hm _ h.choose_spec.2⟩ | (obtain ⟨l,h1,h2⟩:=h;exact ⟨l,h1,hm _ h2⟩) | exact ⟨h.1,hm _ h.2⟩ | exact h.elim
theorem uX {esz bytes:Nat} {n:AV} (h:jQ esz bytes n φ):jQ esz bytes n ψ:=by
 unfold jQ at *
 split at h <;> first | exact ⟨h.1,h.2.1,hm _ h.2.2⟩ | exact h.elim
theorem nh {kd:Nat} {z m k:AV} {ok:Bool} {H:List aa} (h:cF kd z m k ok H φ):cF kd z m k ok H ψ:=by
 unfold cF at *
 split at h <;> (try exact h.elim) <;> first | exact hm _ h | exact ⟨h.1,hm _ h.2⟩ | (split at h <;> (try exact h.elim) <;> first | exact hm _ h | exact ⟨h.1,hm _ h.2⟩ | (split at h <;> (try exact h.elim) <;> first | exact hm _ h | exact ⟨h.1,hm _ h.2⟩))
end
theorem fe {x:Option AV} {d:Nat} {φ ψ:Nat→Prop} (hm:∀ k,φ k→ψ k) (h:eo x d φ):eo x d ψ:=by
 unfold eo at *
 split at h <;> first | exact hm _ h | exact ⟨h.1,hm _ h.2⟩ | exact h.elim
theorem uY {esz:Nat} {x:AV} {lo hi mx:Option AV} {φ ψ:AV→Prop} (hm:∀ z,φ z→ψ z) (h:fD esz x lo hi mx φ):fD esz x lo hi mx ψ:=by
 unfold fD at *
 split at h <;> (try exact h.elim)
 refine fe (fun k h=>fe (fun l h=>⟨h.1,h.2.1,?_⟩) h) h
 obtain ⟨_,_,h⟩:=h
 split at h
 ·exact hm _ h
 ·exact ⟨h.1,fe (fun m h=>⟨h.1,h.2.1,hm _ h.2.2⟩) h.2⟩
theorem ni {esz:Nat} {x:AV} {lo hi mx:Option AV} {φ ψ:AV→Prop} (hm:∀ z,φ z→ψ z) (h:bA esz x lo hi mx φ):bA esz x lo hi mx ψ:=by
 unfold bA iE pq at *
 split at h
 ·split at h
  ·exact fe (fun k h=>fe (fun l h=>⟨h.1,h.2.1,hm _ h.2.2⟩) h) h
  ·exact ⟨h.1,fe (fun m h=>fe (fun k h=>fe (fun l h=>⟨h.1,h.2.1,h.2.2.1,hm _ h.2.2.2⟩) h) h) h.2⟩
 ·exact ⟨h.1,uY hm h.2⟩
theorem kO {x:AV} {lo hi:Option AV} {φ ψ:AV→Prop} (hm:∀ z,φ z→ψ z) (h:cA x lo hi φ):cA x lo hi ψ:=by
 unfold cA at *
 split at h <;> (try exact h.elim)
 exact fe (fun k h=>fe (fun l h=>⟨h.1,h.2.1,hm _ h.2.2⟩) h) h
theorem nj {φ ψ:List AV→Prop} (hm:∀ z,φ z→ψ z):∀ {ps:List (Nat×Nat×AV)} {zs:List AV},iB zs ps φ→iB zs ps ψ
 | [],zs,h=>hm _ h
 | (off,sz,x)::r,zs,h=>⟨h.1,h.2.1,h.2.2.1,nj hm h.2.2.2⟩
theorem iG {esz:Nat} {φ ψ:List AV→Prop} (hm:∀ z,φ z→ψ z):∀ {ps:List (Nat×AV)} {zs:List AV},bw zs esz ps φ→bw zs esz ps ψ
 | [],zs,h=>hm _ h
 | (i,x)::r,zs,h=>⟨h.1,h.2.1,h.2.2.1,iG hm h.2.2.2⟩
def TL (τ:Nat→AV) (dst:Option Nat) (x:AV):Nat→AV:=match dst with | some d=>fW τ d x | none=>τ
theorem lr (env:Env) (dst:Option Nat) (x:AV):get (put dst x env)=TL (get env) dst x:=by cases dst <;> rfl
theorem oO {lo:Option IX} {env:Env} {ρ:IX→AV} (h:∀ i∈lo.toList,aq env i=ρ i):lo.map ρ=gQ env lo:=by
 cases lo with
 | none=>rfl
 | some i=>simp [gQ,h i (by simp)]
theorem oP {is:List IX} {env:Env} {ρ:IX→AV} (h:∀ i∈is,aq env i=ρ i) (g:AV→AV):(is.map fun x=>g (aq env x))=is.map fun x=>g (ρ x):=by
 apply ab4
 intro i hi
 rw [h i hi]
theorem oQ (env:Env):∀ (is:List IX) (j:Nat),aN env none j is=is.map fun x=>(aq env x).ab
 | [],_=>rfl
 | .t s::r,j=>by simp [aN,oQ env r,aq]
 | .c v::r,j=>by simp [aN,oQ env r,aq]
theorem DA {P:Px} {o:cv} {dst:Option Nat} {ρ:IX→AV} {env:Env} {H:List aa} {x:AV} (h:dm P o ρ H x) (hρ:∀ i∈o.all,aq env i=ρ i) :
 bC P o dst env H fun e h=>h=H∧get e=get (put dst x env):=by
 have key:∀ z,z=x→(H=H∧get (put dst z env)=get (put dst x env)):=fun z e=>⟨rfl,e ▸ rfl⟩
 cases o with
 | set i take=>
   cases take with
   | true=>exact h.elim
   | false=>
     simp only [dm,cv.all,aaB,forall_eq] at h hρ
     rw [← hρ] at h
     unfold bC
     cases dst with
     | none=>exact ⟨rfl,rfl⟩
     | some d=>
       subst h
       refine ⟨rfl,?_⟩
       cases i <;> rfl
 | pick c a b=>
   simp only [dm,cv.all,aai,abD,or_false,forall_eq_or_imp,forall_eq] at h hρ
   obtain ⟨h1,h2,h3⟩:=hρ
   rw [← h1,← h2,← h3] at h
   obtain ⟨q,hq,h⟩:=pw h
   show fy (aq env c) _
   rw [hq]
   exact ⟨fun e=>key _ (h.1 e),fun e=>key _ (h.2 e)⟩
 | bin op i j=>
   simp only [dm,cv.all,aai,abD,or_false,forall_eq_or_imp,forall_eq] at h hρ
   obtain ⟨h1,h2⟩:=hρ
   rw [← h1,← h2] at h
   exact tH key h
 | shift op i j=>
   simp only [dm,cv.all,aai,abD,or_false,forall_eq_or_imp,forall_eq] at h hρ
   obtain ⟨h1,h2⟩:=hρ
   rw [← h1,← h2] at h
   exact oM key h
 | jd neq i j=>
   simp only [dm,cv.all,aai,abD,or_false,forall_eq_or_imp,forall_eq] at h hρ
   obtain ⟨h1,h2⟩:=hρ
   rw [← h1,← h2] at h
   exact nc key h
 | mx big i j=>
   simp only [dm,cv.all,aai,abD,or_false,forall_eq_or_imp,forall_eq] at h hρ
   obtain ⟨h1,h2⟩:=hρ
   rw [← h1,← h2] at h
   exact xj key h
 | indexAddr esz i j=>
   simp only [dm,cv.all,aai,abD,or_false,forall_eq_or_imp,forall_eq] at h hρ
   obtain ⟨h1,h2⟩:=hρ
   rw [← h1,← h2] at h
   exact ⟨h.1,jU key h.2⟩
 | dw i j=>
   simp only [dm,cv.all,aai,abD,or_false,forall_eq_or_imp,forall_eq] at h hρ
   obtain ⟨h1,h2⟩:=hρ
   rw [← h1,← h2] at h
   exact kL key h
 | eC n i j=>
   simp only [dm,cv.all,aai,abD,or_false,forall_eq_or_imp,forall_eq] at h hρ
   obtain ⟨h1,h2⟩:=hρ
   rw [← h1,← h2] at h
   exact kM key h
 | lookup kd z i j ok=>
   simp only [dm,cv.all,aai,abD,or_false,forall_eq_or_imp,forall_eq] at h hρ
   obtain ⟨h1,h2⟩:=hρ
   rw [← h1,← h2] at h
   exact nh key h
 | jZ kd neq i=>
   simp only [dm,cv.all,aaB,forall_eq] at h hρ
   rw [← hρ] at h
   exact uV key h
 | un op i=>
   simp only [dm,cv.all,aaB,forall_eq] at h hρ
   rw [← hρ] at h
   exact xi key h
 | mR i=>
   simp only [dm,cv.all,aaB,forall_eq] at h hρ
   rw [← hρ] at h
   exact ⟨h.1,key _ h.2⟩
 | load sz i=>
   simp only [dm,cv.all,aaB,forall_eq] at h hρ
   rw [← hρ] at h
   exact kK key h
 | nilCheck i=>
   simp only [dm,cv.all,aaB,forall_eq] at h hρ
   rw [← hρ] at h
   exact kN key h
 | fieldAddr off sz i=>
   simp only [dm,cv.all,aaB,forall_eq] at h hρ
   rw [← hρ] at h
   exact jT key h
 | field off sz i=>
   simp only [dm,cv.all,aaB,forall_eq] at h hρ
   rw [← hρ] at h
   exact oN key h
 | len kd i=>
   simp only [dm,cv.all,aaB,forall_eq] at h hρ
   rw [← hρ] at h
   exact ⟨h.1,tI key h.2⟩
 | extract i k=>
   simp only [dm,cv.all,aaB,forall_eq] at h hρ
   rw [← hρ] at h
   exact lR key h
 | fm k i=>
   simp only [dm,cv.all,aaB,forall_eq] at h hρ
   rw [← hρ] at h
   exact lS key h
 | iA i=>
   simp only [dm,cv.all,aaB,forall_eq] at h hρ
   rw [← hρ] at h
   exact qq key h
 | bytesOf i=>
   simp only [dm,cv.all,aaB,forall_eq] at h hρ
   rw [← hρ] at h
   exact qt key h
 | oA esz bytes i=>
   simp only [dm,cv.all,aaB,forall_eq] at h hρ
   rw [← hρ] at h
   exact uX key h
 | strOf i=>
   simp only [dm,cv.all,aaB,forall_eq] at h hρ
   rw [← hρ] at h
   exact uW key h
 | build z ps=>
   simp only [dm,cv.all] at h hρ
   have:(ps.map fun q=>(q.1,q.2.1,aq env q.2.2))=ps.map fun q=>(q.1,q.2.1,ρ q.2.2):=
    ab4 fun q hq=>by rw [hρ _ (aal.2 ⟨q,hq,rfl⟩)]
   show cH z.cells (ps.map fun q=>(q.1,q.2.1,aq env q.2.2)) (fun v=>H=H∧get (put dst v env)=get (put dst x env))
   rw [this]
   exact nj (fun v h=>key _ h) h
 | buildSlice own esz z len ps=>
   simp only [dm,cv.all] at h hρ
   have:(ps.map fun q=>(q.1,aq env q.2))=ps.map fun q=>(q.1,ρ q.2):=
    ab4 fun q hq=>by rw [hρ _ (aal.2 ⟨q,hq,rfl⟩)]
   show bw _ _ (ps.map fun q=>(q.1,aq env q.2)) _
   rw [this]
   exact iG (fun v h=>key (.al own v) h) h
 | slice esz i lo hi mx=>
   simp only [dm,cv.all,aai,abJ,forall_eq_or_imp] at h hρ
   obtain ⟨h1,h2⟩:=hρ
   rw [← h1,oO (fun i hi=>h2 i (.inl (.inl hi))),oO (fun i hi=>h2 i (.inl (.inr hi))),oO (fun i hi=>h2 i (.inr hi))] at h
   exact ni key h
 | eD i lo hi=>
   simp only [dm,cv.all,aai,abJ,forall_eq_or_imp] at h hρ
   obtain ⟨h1,h2⟩:=hρ
   rw [← h1,oO (fun i hi=>h2 i (.inl hi)),oO (fun i hi=>h2 i (.inr hi))] at h
   exact kO key h
 | fn f first cap=>
   simp only [dm,cv.all,abJ] at h hρ
   refine key _ ?_
   rw [oP (fun i hi=>hρ i (.inl hi)) AV.ab,oP (fun i hi=>hρ i (.inr hi)) AV.ab]
   exact h
 | call f args pass=>
   cases pass with
   | some _=>exact h.elim
   | none=>
     simp only [dm,cv.all,aai,forall_eq_or_imp] at h hρ
     obtain ⟨h1,h2⟩:=hρ
     rw [← h1] at h
     split at h <;> try exact h.elim
     rename_i g first cap hg
     show qo P (aq env f) args none env H (fun r aL H'=>H'=H∧get (put dst r aL)=get (put dst x env))
     rw [hg]
     obtain ⟨bZ,hl,hcall⟩:=h
     refine ⟨bZ,?_,dO.of <| hcall.mono ?_⟩
     ·rw [oQ,oP h2 AV.ab];exact hl
     ·rintro r H' ⟨hr,rfl⟩
      exact key r hr
 | _=>exact h.elim
end Go.aK
end
section
namespace Go.aK
open Go
theorem DB {m:Nat} {p x:AV} {H:List aa} {K K':List aa→Prop} (hm:∀ H',K H'→K' H') (h:jf m p x H K):jf m p x H K':=by
 unfold jf at *
 split at h <;> (try exact h.elim)
 split at h <;> (try exact h.elim)
 exact ⟨h.1,h.2.1,h.2.2.1,h.2.2.2.1,h.2.2.2.2.1,hm _ h.2.2.2.2.2⟩
theorem zm {p x:AV} {H:List aa} {K K':List aa→Prop} (hm:∀ H',K H'→K' H') (h:eF p x H K):eF p x H K':=by
 unfold eF at *
 split at h <;> (try exact h.elim)
 split at h <;> (try exact h.elim)
 exact ⟨h.1,h.2.1,h.2.2.1,hm _ h.2.2.2⟩
theorem BI {esz bytes:Nat} {s x:AV} {φ ψ:List AV→Prop} (hm:∀ z,φ z→ψ z) (h:bF esz bytes s x φ):bF esz bytes s x ψ:=by
 unfold bF at *
 split at h <;> (try exact h.elim)
 exact ⟨h.1,h.2.1,hm _ h.2.2⟩
theorem zn {esz bytes:Nat} {z s x:AV} {H:List aa} {K K':AV→List aa→Prop} (hm:∀ v H',K v H'→K' v H') (h:da esz bytes z s x H K):da esz bytes z s x H K':=by
 unfold da at *
 cases hr:dB x with
 | none=>
   rw [hr] at h
   simp only at h ⊢
   split at h <;> try exact h.elim
   rename_i id off len cap n ys wY
   cases hi:H[id]? with
   | none=>rw [hi] at h;exact h.elim
   | some ob=>
     rw [hi] at h
     cases ob with
     | cells es=>
       obtain ⟨a,b,c,d,e,f⟩:=h
       exact ⟨a,b,c,d,e,hm _ _ f⟩
     | _=>exact h.elim
 | some ys=>
   rw [hr] at h
   obtain ⟨h1,h⟩:=h
   refine ⟨h1,?_⟩
   cases s with
   | ag=>
     obtain ⟨a,b,c⟩:=h
     exact ⟨a,fun e=>hm _ _ (b e),fun e cap h1 h2=>⟨(c e cap h1 h2).1,hm _ _ (c e cap h1 h2).2⟩⟩
   | om=>
     obtain ⟨a,b,c⟩:=h
     exact ⟨a,fun e=>hm _ _ (b e),fun e cap h1 h2=>⟨(c e cap h1 h2).1,hm _ _ (c e cap h1 h2).2⟩⟩
   | aZ id off len cap=>
     simp only at h ⊢
     cases hi:H[id]? with
     | none=>rw [hi] at h;exact h.elim
     | some ob=>
       rw [hi] at h
       cases ob with
       | cells es=>
         obtain ⟨a,b,c,d,f⟩:=h
         exact ⟨a,b,c,fun e=>⟨(d e).1,hm _ _ (d e).2⟩,fun e dN h1 h2=>⟨(f e dN h1 h2).1,hm _ _ (f e dN h1 h2).2⟩⟩
       | _=>exact h.elim
   | _=>exact h.elim
theorem zp {lm:Nat→Nat} {esz bytes:Nat} {z s x:AV} {H:List aa} {K K':AV→List aa→Prop} (hm:∀ v H',K v H'→K' v H') (h:jz lm esz bytes z s x H K):jz lm esz bytes z s x H K':=by
 unfold jz at *
 cases hr:dB x with
 | none=>
   rw [hr] at h
   simp only at h ⊢
   split at h <;> try exact h.elim
   rename_i id off len cap n ys wY
   cases hi:H[id]? with
   | none=>rw [hi] at h;exact h.elim
   | some ob=>
     rw [hi] at h
     cases ob with
     | cells es=>
       obtain ⟨a,b,c,d,e,f⟩:=h
       exact ⟨a,b,c,d,e,hm _ _ f⟩
     | _=>exact h.elim
 | some ys=>
   rw [hr] at h
   obtain ⟨h1,h⟩:=h
   refine ⟨h1,?_⟩
   cases s with
   | ag=>
     obtain ⟨a,b,c⟩:=h
     exact ⟨a,fun e=>hm _ _ (b e),fun e cap h1 h2=>⟨(c e cap h1 h2).1,hm _ _ (c e cap h1 h2).2⟩⟩
   | om=>
     obtain ⟨a,b,c⟩:=h
     exact ⟨a,fun e=>hm _ _ (b e),fun e cap h1 h2=>⟨(c e cap h1 h2).1,hm _ _ (c e cap h1 h2).2⟩⟩
   | aZ id off len cap=>
     simp only at h ⊢
     cases hi:H[id]? with
     | none=>rw [hi] at h;exact h.elim
     | some ob=>
       rw [hi] at h
       cases ob with
       | cells es=>
         obtain ⟨a,b,c,d,f⟩:=h
         exact ⟨a,b,c,fun e=>⟨(d e).1,hm _ _ (d e).2⟩,fun e dN h1 h2=>⟨(f e dN h1 h2).1,hm _ _ (f e dN h1 h2).2⟩⟩
       | _=>exact h.elim
   | _=>exact h.elim
theorem zq {lo esz bytes:Nat} {z s x:AV} {H:List aa} {K K':AV→List aa→Prop} (hm:∀ v H',K v H'→K' v H') (h:fH lo esz bytes z s x H K):fH lo esz bytes z s x H K':=⟨h.1,zp hm h.2⟩
theorem BJ {esz:Nat} {z x:AV} {H:List aa} {K K':List aa→Prop} (hm:∀ H',K H'→K' H') (h:jn esz z x H K):jn esz z x H K':=by
 unfold jn at *
 split at h <;> (try exact h.elim)
 split at h <;> (try exact h.elim)
 exact ⟨h.1,h.2.1,h.2.2.1,hm _ h.2.2.2⟩
theorem DC {esz bytes:Nat} {z n:AV} {H:List aa} {K K':AV→List aa→Prop} (hm:∀ v H',K v H'→K' v H') (h:fC esz bytes z n H K):fC esz bytes z n H K':=by
 unfold fC at *
 split at h <;> (try exact h.elim)
 exact ⟨h.1,h.2.1,h.2.2.1,hm _ _ h.2.2.2⟩
theorem BK {kd:Nat} {m k x:AV} {H:List aa} {K K':List aa→Prop} (hm:∀ H',K H'→K' H') (h:fU kd m k x H K):fU kd m k x H K':=by
 unfold fU at *
 split at h <;> (try exact h.elim)
 split at h <;> (try exact h.elim)
 refine ⟨h.1,h.2.1,h.2.2.1,?_⟩
 obtain ⟨_,_,_,h⟩:=h
 split at h
 ·exact hm _ h
 ·exact ⟨h.1,hm _ h.2⟩
 ·exact h.elim
theorem Gc {esz:Nat} {d s:AV} {H:List aa} {K K':AV→List aa→Prop} (hm:∀ v H',K v H'→K' v H') (h:kF esz d s H K):kF esz d s H K':=by
 unfold kF at *
 split at h <;> (try exact h.elim)
 split at h <;> (try exact h.elim)
 exact ⟨h.1,h.2.1,h.2.2.1,hm _ _ h.2.2.2⟩
theorem lz {esz:Nat} {x:AV} {H:List aa} {K K':AV→List aa→Prop} (hm:∀ v H',K v H'→K' v H') (h:dZ esz x H K):dZ esz x H K':=by
 unfold dZ at *
 split at h
 ·split at h <;> (try exact h.elim)
  exact ⟨h.1,h.2.1,h.2.2.1,h.2.2.2.1,hm _ _ h.2.2.2.2⟩
 ·exact h.elim
 ·exact hm _ _ h
 ·exact hm _ _ h
theorem uZ {esz:Nat}:∀ {xs:List AV} {H:List aa} {K K':List AV→List aa→Prop} (hm:∀ v H',K v H'→K' v H') (h:kH esz xs H K),kH esz xs H K'
 | [],H,K,K',hm,h=>hm _ _ h
 | x::r,H,K,K',hm,h=>lz (fun v H' hk=>uZ (fun vs H'' h2=>hm _ _ h2) hk) h
theorem JA {e id c:Nat} {H:List aa} {K K':List aa→Prop} (hm:∀ H',K H'→K' H') (h:Bz e id c H K):Bz e id c H K':=by
 unfold Bz at *
 split at h <;> (try exact h.elim)
 split at h <;> (try exact h.elim)
 ·exact lz (fun v H' hk=>⟨hk.1,hk.2.1,hm _ hk.2.2⟩) h
 ·exact hm _ h
theorem xk {esz:Nat} {x:AV} {H:List aa} {K K':AV→List aa→Prop} (hm:∀ v H',K v H'→K' v H') (h:fY esz x H K):fY esz x H K':=by
 unfold fY at *
 split at h
 ·exact uZ (fun v H' hk=>hm _ _ hk) h
 ·split at h
  ·rename_i hc;rw [if_pos hc];exact JA (hm _) h
  ·rename_i hc;rw [if_neg hc];exact lz hm h
 ·exact lz hm h
theorem BL {l m:Nat} {p x:AV} {H:List aa} {K K':List aa→Prop} (hm:∀ H',K H'→K' H') (h:iD l m p x H K):iD l m p x H K':=by
 unfold iD at *
 split at h <;> (try exact h.elim)
 split at h <;> (try exact h.elim)
 exact ⟨h.1,h.2.1,h.2.2.1,h.2.2.2.1,h.2.2.2.2.1,h.2.2.2.2.2.1,hm _ h.2.2.2.2.2.2⟩
theorem oR {env1 dc:Env} {pass:Option Nat}:∀ {is:List IX} {j:Nat},(∀ i∈is,aq dc i=aq env1 i)→aN dc pass j is=aN env1 pass j is
 | [],_,_=>rfl
 | .t s::r,j,h=>by
   have h1:get dc s=get env1 s:=h (.t s) (by simp)
   simp only [aN,h1,oR (fun i hi=>h i (aaF _ hi))]
 | .c v::r,j,h=>by
   simp only [aN,oR (fun i hi=>h i (aaF _ hi))]
theorem gY {lo:Option IX} {env1 dc:Env} (h:∀ i∈lo.toList,aq dc i=aq env1 i):gQ dc lo=gQ env1 lo:=by
 cases lo with
 | none=>rfl
 | some i=>simp [gQ,h i (by simp)]
theorem py {P:Px} {o:cv} {dst:Option Nat} {env1 dc:Env} {H:List aa} {K1 K2:Env→List aa→Prop} (hl:∀ i∈o.all,aq dc i=aq env1 i) (h:bC P o dst env1 H K1)
 (hK:∀ (mods:List (Nat×AV)) H',(∀ p∈mods,dst=some p.1∨p.1∈o.kill)→(o.TG=false→H'=H)→(o.z7=true→∃ e,H'=H++e)→K1 (mods++env1) H'→K2 (mods++dc) H'):bC P o dst dc H K2:=by
 have kput:∀ z H',(o.TG=false→H'=H)→(o.z7=true→∃ e,H'=H++e)→K1 (put dst z env1) H'→K2 (put dst z dc) H':=by
  intro z H' hc hg
  cases hd:dst with
  | none=>exact hK [] H' (by simp) hc hg
  | some d=>exact hK [(d,z)] H' (by simp [hd]) hc hg
 have kput0:∀ z,K1 (put dst z env1) H→K2 (put dst z dc) H:=fun z=>kput z H (fun _=>rfl) (fun _=>⟨[],by simp⟩)
 have kenv:∀ H',(o.TG=false→H'=H)→(o.z7=true→∃ e,H'=H++e)→K1 env1 H'→K2 dc H':=fun H' hc hg=>hK [] H' (by simp) hc hg
 cases o with
 | set i take=>
   simp only [cv.all,aaB,forall_eq] at hl
   simp only [bC] at h ⊢
   cases dst with
   | none=>exact kenv H (fun _=>rfl) (fun _=>⟨[],by simp⟩) h
   | some d=>
     simp only at h ⊢
     cases i with
     | c v=>cases take <;> exact kput0 _ h
     | t s=>
       have hs:get dc s=get env1 s:=hl
       cases take with
       | false=>
         have e1:vJ env1 d (.t s) false=put (some d) (get env1 s).ab env1:=rfl
         have e2:vJ dc d (.t s) false=put (some d) (get env1 s).ab dc:=by simp only [vJ,put,aq,hs]
         rw [e2];rw [e1] at h
         exact kput0 _ h
       | true=>
         have e1:vJ env1 d (.t s) true=[(d,get env1 s),(s,(get env1 s).ab)]++env1:=rfl
         have e2:vJ dc d (.t s) true=[(d,get env1 s),(s,(get env1 s).ab)]++dc:=by simp only [vJ,hs];rfl
         rw [e2];rw [e1] at h
         exact hK _ H (by simp [cv.kill]) (fun _=>rfl) (fun _=>⟨[],by simp⟩) h
 | pick c a b=>
   simp only [cv.all,aai,abD,or_false,forall_eq_or_imp,forall_eq] at hl
   obtain ⟨h1,h2,h3⟩:=hl
   simp only [bC] at h ⊢
   rw [h1,h2,h3]
   obtain ⟨q,hq,h⟩:=pw h
   rw [hq]
   exact ⟨fun e=>kput0 _ (h.1 e),fun e=>kput0 _ (h.2 e)⟩
 | bin op i j=>
   simp only [cv.all,aai,abD,or_false,forall_eq_or_imp,forall_eq] at hl
   simp only [bC] at h ⊢
   rw [hl.1,hl.2]
   exact tH kput0 h
 | shift op i j=>
   simp only [cv.all,aai,abD,or_false,forall_eq_or_imp,forall_eq] at hl
   simp only [bC] at h ⊢
   rw [hl.1,hl.2]
   exact oM kput0 h
 | jd neq i j=>
   simp only [cv.all,aai,abD,or_false,forall_eq_or_imp,forall_eq] at hl
   simp only [bC] at h ⊢
   rw [hl.1,hl.2]
   exact nc kput0 h
 | indexAddr esz i j=>
   simp only [cv.all,aai,abD,or_false,forall_eq_or_imp,forall_eq] at hl
   simp only [bC] at h ⊢
   rw [hl.1,hl.2]
   exact ⟨h.1,jU kput0 h.2⟩
 | dw i j=>
   simp only [cv.all,aai,abD,or_false,forall_eq_or_imp,forall_eq] at hl
   simp only [bC] at h ⊢
   rw [hl.1,hl.2]
   exact kL kput0 h
 | eC n i j=>
   simp only [cv.all,aai,abD,or_false,forall_eq_or_imp,forall_eq] at hl
   simp only [bC] at h ⊢
   rw [hl.1,hl.2]
   exact kM kput0 h
 | lookup kd z i j ok=>
   simp only [cv.all,aai,abD,or_false,forall_eq_or_imp,forall_eq] at hl
   simp only [bC] at h ⊢
   rw [hl.1,hl.2]
   exact nh kput0 h
 | mx big i j=>
   simp only [cv.all,aai,abD,or_false,forall_eq_or_imp,forall_eq] at hl
   simp only [bC] at h ⊢
   rw [hl.1,hl.2]
   exact xj kput0 h
 | store m i j=>
   simp only [cv.all,aai,abD,or_false,forall_eq_or_imp,forall_eq] at hl
   simp only [bC] at h ⊢
   rw [hl.1,hl.2]
   exact DB (fun H' hk=>kenv H' (fun e=>by cases e) (fun e=>by cases e) hk) h
 | oz m i j=>
   simp only [cv.all,aai,abD,or_false,forall_eq_or_imp,forall_eq] at hl
   simp only [bC] at h ⊢
   rw [hl.1,hl.2]
   split at h <;> (try exact h.elim)
   exact BL (fun H' hk=>kenv H' (fun e=>by cases e) (fun e=>by cases e) hk) h
 | append esz bytes i j=>
   simp only [cv.all,aai,abD,or_false,forall_eq_or_imp,forall_eq] at hl
   simp only [bC] at h ⊢
   rw [hl.1,hl.2]
   refine BI (fun zs hk=>?_) h
   cases i with
   | c v=>exact kput0 _ hk
   | t s=>
     have hs:get dc s=get env1 s:=hl.1
     have e:∀ env:Env,get env s=get env1 s→put dst (.al esz zs) (cQ env (IX.t s).slot)=(put dst (.al esz zs) [(s,(get env1 s).ab)])++env:=by
      intro env he
      cases dst <;> simp [put,cQ,IX.slot,he]
     rw [e env1 rfl] at hk
     rw [e dc hs]
     refine hK _ H ?_ (fun _=>rfl) (fun _=>⟨[],by simp⟩) hk
     intro p hp
     cases dst with
     | none=>simp [put] at hp;subst hp;right;simp [cv.kill]
     | some d=>
       simp [put] at hp
       rcases hp with rfl | rfl
       ·left;rfl
       ·right;simp [cv.kill]
 | copy esz i j=>
   simp only [cv.all,aai,abD,or_false,forall_eq_or_imp,forall_eq] at hl
   simp only [bC] at h ⊢
   rw [hl.1,hl.2]
   exact Gc (fun v H' hk=>kput v H' (fun e=>by cases e) (fun e=>by cases e) hk) h
 | lJ kd i j k=>
   simp only [cv.all,aai,abD,or_false,forall_eq_or_imp,forall_eq] at hl
   simp only [bC] at h ⊢
   rw [hl.1,hl.2.1,hl.2.2]
   exact BK (fun H' hk=>kenv H' (fun e=>by cases e) (fun e=>by cases e) hk) h
 | fR i s=>
   simp only [cv.all,aai,abD,or_false,forall_eq_or_imp,forall_eq] at hl
   simp only [bC] at h ⊢
   have hs:get dc s=get env1 s:=hl.2
   rw [hl.1,hs]
   exact zm (fun H' hk=>hK [(s,(get env1 s).ab)] H' (by simp [cv.kill]) (fun e=>by cases e) (fun e=>by cases e) hk) h
 | jZ kd neq i=>
   simp only [cv.all,aaB,forall_eq] at hl
   simp only [bC] at h ⊢
   rw [hl]
   exact uV kput0 h
 | un op i=>
   simp only [cv.all,aaB,forall_eq] at hl
   simp only [bC] at h ⊢
   rw [hl]
   exact xi kput0 h
 | box i=>
   simp only [cv.all,aaB,forall_eq] at hl
   simp only [bC] at h ⊢
   rw [hl]
   exact ⟨h.1,h.2.1,kput _ _ (fun e=>by cases e) (fun _=>⟨_,rfl⟩) h.2.2⟩
 | mR i=>
   simp only [cv.all,aaB,forall_eq] at hl
   simp only [bC] at h ⊢
   rw [hl]
   exact ⟨h.1,kput0 _ h.2⟩
 | tn m i=>
   simp only [cv.all,aaB,forall_eq] at hl
   simp only [bC] at h ⊢
   rw [hl]
   exact ⟨h.1,h.2.1,h.2.2.1,kput0 _ h.2.2.2⟩
 | alloc z=>
   simp only [bC] at h ⊢
   exact ⟨h.1,kput _ _ (fun e=>by cases e) (fun _=>⟨_,rfl⟩) h.2⟩
 | oB=>
   simp only [bC] at h ⊢
   exact kput _ _ (fun e=>by cases e) (fun _=>⟨_,rfl⟩) h
 | load sz i=>
   simp only [cv.all,aaB,forall_eq] at hl
   simp only [bC] at h ⊢
   rw [hl]
   exact kK kput0 h
 | uH sz esz i=>
   simp only [cv.all,aaB,forall_eq] at hl
   simp only [bC] at h ⊢
   rw [hl]
   exact kK (fun z hz=>xk (fun v H' hk=>kput v H' (fun e=>by cases e) (fun e=>by cases e) hk) hz) h
 | eX i=>
   simp only [cv.all,aaB,forall_eq] at hl
   simp only [bC] at h ⊢
   rw [hl]
   cases dst with
   | none=>exact h.elim
   | some d=>
     cases hv:aq env1 i with
     | ptr id off=>
       rw [hv] at h
       simp only at h ⊢
       cases bn:H[id]? with
       | none=>rw [bn] at h;exact h.elim
       | some ob=>
         rw [bn] at h
         cases ob with
         | cells es=>exact ⟨h.1,hK [(d,es.getD off .any)] _ (by simp) (fun e=>by cases e) (fun e=>by cases e) h.2⟩
         | _=>exact h.elim
     | _=>rw [hv] at h;exact h.elim
 | Bj esz i=>
   simp only [cv.all,aaB,forall_eq] at hl
   simp only [bC] at h ⊢
   rw [hl]
   exact xk (fun v H' hk=>kput v H' (fun e=>by cases e) (fun e=>by cases e) hk) h
 | nilCheck i=>
   simp only [cv.all,aaB,forall_eq] at hl
   simp only [bC] at h ⊢
   rw [hl]
   exact kN kput0 h
 | fieldAddr off sz i=>
   simp only [cv.all,aaB,forall_eq] at hl
   simp only [bC] at h ⊢
   rw [hl]
   exact jT kput0 h
 | field off sz i=>
   simp only [cv.all,aaB,forall_eq] at hl
   simp only [bC] at h ⊢
   rw [hl]
   exact oN kput0 h
 | len kd i=>
   simp only [cv.all,aaB,forall_eq] at hl
   simp only [bC] at h ⊢
   rw [hl]
   exact ⟨h.1,tI kput0 h.2⟩
 | uI esz bytes z i=>
   simp only [cv.all,aaB,forall_eq] at hl
   simp only [bC] at h ⊢
   rw [hl]
   exact DC (fun v H' hk=>kput v H' (fun e=>by cases e) (fun e=>by cases e) hk) h
 | oA esz bytes i=>
   simp only [cv.all,aaB,forall_eq] at hl
   simp only [bC] at h ⊢
   rw [hl]
   exact uX kput0 h
 | extract i k=>
   simp only [cv.all,aaB,forall_eq] at hl
   simp only [bC] at h ⊢
   rw [hl]
   exact lR kput0 h
 | fm k i=>
   simp only [cv.all,aaB,forall_eq] at hl
   simp only [bC] at h ⊢
   rw [hl]
   exact lS kput0 h
 | iA i=>
   simp only [cv.all,aaB,forall_eq] at hl
   simp only [bC] at h ⊢
   rw [hl]
   exact qq kput0 h
 | bytesOf i=>
   simp only [cv.all,aaB,forall_eq] at hl
   simp only [bC] at h ⊢
   rw [hl]
   exact qt kput0 h
 | strOf i=>
   simp only [cv.all,aaB,forall_eq] at hl
   simp only [bC] at h ⊢
   rw [hl]
   exact uW kput0 h
 | build z ps=>
   simp only [cv.all] at hl
   simp only [bC] at h ⊢
   have:(ps.map fun q=>(q.1,q.2.1,aq dc q.2.2))=ps.map fun q=>(q.1,q.2.1,aq env1 q.2.2):=
    ab4 fun q hq=>by rw [hl _ (aal.2 ⟨q,hq,rfl⟩)]
   rw [this]
   exact nj (fun v hk=>kput0 _ hk) h
 | C6 esz z len ps=>
   simp only [cv.all] at hl
   simp only [bC] at h ⊢
   have:(ps.map fun q=>(q.1,aq dc q.2))=ps.map fun q=>(q.1,aq env1 q.2):=
    ab4 fun q hq=>by rw [hl _ (aal.2 ⟨q,hq,rfl⟩)]
   rw [this]
   exact iG (fun v hk=>⟨hk.1,kput _ _ (fun e=>by cases e) (fun e=>by cases e) hk.2⟩) h
 | j4 esz bytes z i j=>
   simp only [cv.all,aai,abD,or_false,forall_eq_or_imp,forall_eq] at hl
   simp only [bC] at h ⊢
   rw [hl.1,hl.2]
   exact zn (fun v H' hk=>kput v H' (fun e=>by cases e) (fun e=>by cases e) hk) h
 | j5 esz bytes z i j=>
   simp only [cv.all,aai,abD,or_false,forall_eq_or_imp,forall_eq] at hl
   simp only [bC] at h ⊢
   rw [hl.1,hl.2]
   split at h <;> (try exact h.elim)
   exact zq (fun v H' hk=>kput v H' (fun e=>by cases e) (fun e=>by cases e) hk) h
 | oC esz z i=>
   simp only [cv.all,aaB,forall_eq] at hl
   simp only [bC] at h ⊢
   rw [hl]
   exact BJ (fun H' hk=>kput _ H' (fun e=>by cases e) (fun e=>by cases e) hk) h
 | buildSlice own esz z len ps=>
   simp only [cv.all] at hl
   simp only [bC] at h ⊢
   have:(ps.map fun q=>(q.1,aq dc q.2))=ps.map fun q=>(q.1,aq env1 q.2):=
    ab4 fun q hq=>by rw [hl _ (aal.2 ⟨q,hq,rfl⟩)]
   rw [this]
   exact iG (fun v hk=>kput0 _ hk) h
 | slice esz i lo hi m=>
   simp only [cv.all,aai,abJ,forall_eq_or_imp] at hl
   obtain ⟨h1,h2⟩:=hl
   simp only [bC] at h ⊢
   rw [h1,gY (fun i hi=>h2 i (.inl (.inl hi))),gY (fun i hi=>h2 i (.inl (.inr hi))),gY (fun i hi=>h2 i (.inr hi))]
   exact ni kput0 h
 | qI esz i lo hi m=>
   simp only [cv.all,aai,abJ,forall_eq_or_imp] at hl
   obtain ⟨h1,h2⟩:=hl
   simp only [bC] at h ⊢
   rw [h1,gY (fun i hi=>h2 i (.inl (.inl hi))),gY (fun i hi=>h2 i (.inl (.inr hi))),gY (fun i hi=>h2 i (.inr hi))]
   exact ⟨h.1,uY (fun z hz=>⟨hz.1,kput0 _ hz.2⟩) h.2⟩
 | eD i lo hi=>
   simp only [cv.all,aai,abJ,forall_eq_or_imp] at hl
   obtain ⟨h1,h2⟩:=hl
   simp only [bC] at h ⊢
   rw [h1,gY (fun i hi=>h2 i (.inl hi)),gY (fun i hi=>h2 i (.inr hi))]
   exact kO kput0 h
 | fn f first cap=>
   simp only [cv.all,abJ] at hl
   simp only [bC] at h ⊢
   rw [oP (fun i hi=>hl i (.inl hi)) AV.ab,oP (fun i hi=>hl i (.inr hi)) AV.ab]
   exact kput0 _ h
 | call f args pass=>
   simp only [cv.all,aai,forall_eq_or_imp] at hl
   obtain ⟨h1,h2⟩:=hl
   simp only [bC,qo] at h ⊢
   rw [h1]
   split at h <;> try exact h.elim
   all_goals
   obtain ⟨bZ,hle,hcall⟩:=h
   refine ⟨bZ,?_,hcall.mono fun r H' hk=>?_⟩
   ·rw [oR h2];exact hle
   ·cases hp:bh args pass with
    | none=>
      rw [hp] at hk
      exact kput r H' (fun e=>by cases e) (fun e=>by cases e) hk
    | some s=>
      rw [hp] at hk
      have jO:IX.t s∈args∧s∈(cv.call f args pass).kill:=by
       unfold bh at hp
       simp only [cv.kill]
       split at hp
       ·rename_i j
        split at hp <;> cases hp
        rename_i hj
        try simp only [hj]
        exact ⟨abE hj,by simp⟩
       ·cases hp
      have hs:get dc s=get env1 s:=h2 _ jO.1
      have e:∀ env:Env,get env s=get env1 s→put dst r (cQ env (some s))=(put dst r [(s,(get env1 s).ab)])++env:=by
       intro env he
       cases dst <;> simp [put,cQ,he]
      rw [e env1 rfl] at hk
      rw [e dc hs]
      refine hK _ H' ?_ (fun e=>by cases e) (fun e=>by cases e) hk
      intro p Pa
      cases dst with
      | none=>simp [put] at Pa;subst Pa;exact .inr jO.2
      | some d=>
        simp [put] at Pa
        rcases Pa with rfl | rfl
        ·left;rfl
        ·exact .inr jO.2
 | never=>exact h.elim
end Go.aK
end
section
namespace Go.aK
open Go
theorem de {env1 dc:Env} (h:get env1=get dc):∀ mods:List (Nat×AV),get (mods++env1)=get (mods++dc)
 | []=>h
 | (k,v)::r=>by
   funext t
   simp only [List.cons_append,get]
   split
   ·rfl
   ·rw [de h r]
theorem qv {env1 dc:Env} {t:Nat} (h:get env1 t=get dc t):∀ mods:List (Nat×AV),get (mods++env1) t=get (mods++dc) t
 | []=>h
 | (k,v)::r=>by
   simp only [List.cons_append,get]
   split
   ·rfl
   ·rw [qv h r]
theorem lT {env:Env} {t:Nat}:∀ {mods:List (Nat×AV)},(∀ p∈mods,p.1≠t)→get (mods++env) t=get env t
 | [],_=>rfl
 | (k,v)::r,h=>by
   simp only [List.cons_append,get]
   rw [if_neg (fun e=>h (k,v) (by simp) e.symm),lT (fun p hp=>h p (by simp [hp]))]
theorem JB {l:List IX} {s:Nat} (h:IX.t s∈l):s∈IX.R7 l:=List.mem_filterMap.2 ⟨_,h,rfl⟩
theorem Ge {o:bJ} {env1 dc:Env} (hl:∀ s∈o.lk,get dc s=get env1 s):∀ i∈o.op.all,aq dc i=aq env1 i:=by
 intro i hi
 cases i with
 | c v=>rfl
 | t s=>exact hl s (List.mem_append_left _ (JB hi))
theorem get_guard {env:Env} {g:Nat} {b:Bool} (h:get env g=.bool b):get ((g,AV.bool b)::env)=get env:=by
 funext t
 simp only [get]
 split
 ·rename_i e;rw [e,h]
 ·rfl
theorem pA {P:Px} {o:bJ} {env1 dc:Env} {H:List aa} {K1 K2:Env→List aa→Prop} (hl:∀ s∈o.lk,get dc s=get env1 s) (h:tD P o env1 H K1)
 (hK:∀ e1 e2 H',(∃ mods:List (Nat×AV),(∀ p∈mods,o.dst=some p.1∨p.1∈o.op.kill)∧get e1=get (mods++env1)∧get e2=get (mods++dc))→(o.op.TG=false→H'=H)→(o.op.z7=true→∃ e,H'=H++e)→K1 e1 H'→K2 e2 H'):tD P o dc H K2:=by
 unfold tD at *
 cases hg:o.g with
 | none=>
   simp only [hg] at h ⊢
   exact py (Ge hl) h fun mods H' hm hc hg hk=>hK _ _ H' ⟨mods,hm,rfl,rfl⟩ hc hg hk
 | some p=>
   obtain ⟨g,want⟩:=p
   simp only [hg] at h ⊢
   unfold jg at *
   have wh:get dc g=get env1 g:=hl g (by simp [bJ.lk,hg])
   rw [wh]
   split at h
   rotate_left
   ·rename_i hb
    refine hK _ _ H ⟨(match o.dst with | some d=>[(d,.tuple [])] | none=>[]),?_,?_,?_⟩ (fun _=>rfl) (fun _=>⟨[],by simp⟩) h
    ·cases hd:o.dst <;> simp
    ·cases hd:o.dst <;> rfl
    ·cases hd:o.dst <;> rfl
   ·exact h.elim
   rename_i b hb
   have qm:get dc g=.bool b:=by rw [wh,hb]
   refine ⟨fun e=>?_,fun e=>?_⟩
   ·subst e
    refine py (env1:=(g,.bool b)::env1) (Ge (o:=o) fun s hs=>?_) (h.1 rfl) fun mods H' hm hc hg hk=>hK _ _ H' ⟨mods,hm,de (get_guard hb) mods,de (get_guard qm) mods⟩ hc hg hk
    rw [get_guard hb,get_guard qm]
    exact hl s hs
   ·have h2:=h.2 e
    subst e
    refine hK _ _ H ⟨(match o.dst with | some d=>[(d,.tuple [])] | none=>[]),?_,?_,?_⟩ (fun _=>rfl) (fun _=>⟨[],by simp⟩) h2
    ·cases hd:o.dst <;> simp
    ·cases hd:o.dst with
     | none=>exact get_guard hb
     | some d=>exact de (get_guard hb) [(d,.tuple [])]
    ·cases hd:o.dst with
     | none=>exact get_guard qm
     | some d=>exact de (get_guard qm) [(d,.tuple [])]
theorem rZ {P:Px} {o:bJ} {env:Env} {H:List aa} {K1 K2:Env→List aa→Prop} (h:tD P o env H K1)
 (hK:∀ e1 e2 H',get e1=get e2→K1 e1 H'→K2 e2 H'):tD P o env H K2:=
 pA (fun _ _=>rfl) h fun e1 e2 H' ⟨mods,_,h1,h2⟩ _ _ hk=>hK e1 e2 H' (h1.trans h2.symm) hk
section
variable {P:Px} {ops:Array Oper} {il:List bJ} {K:Env→List aa→Prop}
def qA (P:Px) (il:List bJ) (i:Nat) (env:Env) (H:List aa) (K:Env→List aa→Prop):Prop:=
 match il[i]? with
 | none=>K env H
 | some o=>tD P o env H K
def xl (P:Px) (ops:Array Oper) (il:List bJ) (K:Env→List aa→Prop):Nat→Array Bool→Env→List aa→Prop
 | 0,listed,env,H=>Region.ready .any ops listed=[]∧K env H
 | f + 1,listed,env,H=>(Region.ready .any ops listed=[]→K env H)∧∀ i∈Region.ready .any ops listed,qA P il i env H (xl P ops il K f (listed.setIfInBounds i true))
def Inv (K:Env→List aa→Prop):Prop:=∀ e1 e2 H,get e1=get e2→K e1 H→K e2 H
theorem jh (hK:Inv K):∀ (f:Nat) (listed:Array Bool) {e1 e2:Env} {H:List aa},get e1=get e2→xl P ops il K f listed e1 H→xl P ops il K f listed e2 H
 | 0,_,_,_,_,he,h=>⟨h.1,hK _ _ _ he h.2⟩
 | f + 1,listed,e1,e2,H,he,h=>by
   refine ⟨fun h0=>hK _ _ _ he (h.1 h0),fun i hi=>?_⟩
   have hq:=h.2 i hi
   unfold qA at *
   split
   ·rename_i hn;simp only [hn] at hq;exact jh hK f _ he hq
   ·rename_i o ho
    simp only [ho] at hq
    exact pA (fun s _=>by rw [he]) hq fun a b H' ⟨mods,_,h1,h2⟩ _ _ hk=>jh hK f _ (by rw [h1,h2,de he]) hk
def XA (P:Px) (st:Bool) (o:bJ) (env:Env) (H:List aa) (x:AV):Prop:=
 ∃ ρ:IX→AV,(∀ i∈o.op.all,aq env i=ρ i)∧match o.g with
  | none=>dv P st o.op ρ H x
  | some (g,want)=>(∃ b,get env g=.bool b∧(b=want→dv P st o.op ρ H x)∧(b≠want→x=.tuple []))∨(get env g=.tuple []∧x=.tuple [])
theorem H8 {st:Bool} {o:cv} {ρ:IX→AV} {H:List aa} {x:AV} (h:dv P st o ρ H x):dm P o ρ H x:=by
 cases st
 ·exact h H
 ·exact h
theorem xm {H e:List aa} {id:Nat} {o:aa} (h:H[id]?=some o):(H++e)[id]?=some o:=by
 rw [yO (aaJ.1 h).1,h]
theorem Gf {sz:Option Nat} {x:AV} {H e:List aa} {φ:AV→Prop} (h:aV sz x H φ):aV sz x (H++e) φ:=by
 unfold aV at *
 split at h
 ·split at h
  ·rename_i bn;rw [xm bn];exact h
  ·exact h.elim
 ·exact h
 ·exact h.elim
theorem JC {x:AV} {H e:List aa} {φ:AV→Prop} (h:fg x H φ):fg x (H++e) φ:=by
 unfold fg at *
 split at h <;> (try exact h)
 split at h
 ·rename_i bn;rw [xm bn];exact h
 ·exact h.elim
theorem BM {kd:Nat} {z m k:AV} {ok:Bool} {H e:List aa} {φ:AV→Prop} (h:cF kd z m k ok H φ):cF kd z m k ok (H++e) φ:=by
 unfold cF at *
 split at h <;> (try exact h)
 split at h
 ·rename_i bn;rw [xm bn];exact h
 ·exact h.elim
theorem Ab {o:cv} {ρ:IX→AV} {H e:List aa} {x:AV} (hs:o.stays=true) (h:dm P o ρ H x):dm P o ρ (H++e) x:=by
 cases o with
 | call f args pass=>cases hs
 | load sz i=>
   unfold dm at h ⊢
   exact Gf h
 | len kd i=>
   unfold dm at h ⊢
   exact ⟨h.1,JC h.2⟩
 | lookup kd z m k ok=>
   unfold dm at h ⊢
   exact BM h
 | set i t=>cases t <;> exact h
 | _=>exact h
theorem DD {st:Bool} {o:cv} {ρ:IX→AV} {H H':List aa} {x:AV} (hH:st=true→H'=H∨(o.stays=true∧∃ e,H'=H++e)) (h:dv P st o ρ H x):dv P st o ρ H' x:=by
 cases st
 ·exact h
 ·rcases hH rfl with e | ⟨h1,e,he⟩
  ·rw [e];exact h
  ·rw [he];exact Ab h1 h
theorem JD {st:Bool} {o:bJ} {env1 dc:Env} {H1 H2:List aa} {x:AV} (hl:∀ s∈o.lk,get dc s=get env1 s) (hH:st=true→H2=H1∨(o.op.stays=true∧∃ e,H2=H1++e)) (h:XA P st o env1 H1 x):XA P st o dc H2 x:=by
 obtain ⟨ρ,h1,h2⟩:=h
 refine ⟨ρ,fun i hi=>(Ge hl i hi).trans (h1 i hi),?_⟩
 cases hg:o.g with
 | none=>simp only [hg] at h2 ⊢;exact DD hH h2
 | some p=>
   obtain ⟨g,want⟩:=p
   simp only [hg] at h2 ⊢
   rcases h2 with ⟨b,k1,k2,k3⟩ | ⟨k1,k2⟩
   ·exact .inl ⟨b,(hl g (by simp [bJ.lk,hg])).trans k1,fun e=>DD hH (k2 e),k3⟩
   ·exact .inr ⟨(hl g (by simp [bJ.lk,hg])).trans k1,k2⟩
theorem H9 {st:Bool} {o:bJ} {env:Env} {H:List aa} {x:AV} (h:XA P st o env H x):tD P o env H fun e H'=>H'=H∧get e=get (put o.dst x env):=by
 obtain ⟨ρ,h1,h2⟩:=h
 unfold tD
 cases hg:o.g with
 | none=>simp only [hg] at h2 ⊢;exact DA (H8 h2) h1
 | some p=>
   obtain ⟨g,want⟩:=p
   simp only [hg] at h2 ⊢
   rcases h2 with ⟨b,k1,k2,k3⟩ | ⟨k1,k2⟩
   rotate_left
   ·unfold jg
    rw [k1]
    subst k2
    exact ⟨by simp,rfl⟩
   unfold jg
   rw [k1]
   refine ⟨fun e=>?_,fun e=>?_⟩
   ·subst e
    have Ow:=get_guard k1
    have:=DA (dst:=o.dst) (env:=(g,.bool b)::env) (H8 (k2 rfl)) (fun i hi=>by
     rw [← h1 i hi]
     cases i with
     | c v=>rfl
     | t s=>show get _ s=get _ s;rw [Ow])
    refine py (fun _ _=>rfl) this ?_
    intro mods H' _ _ _ hk
    refine ⟨hk.1,hk.2.trans ?_⟩
    rw [lr,lr,Ow]
   ·have dJ:b≠want:=by intro e2;subst e2;cases b <;> cases e
    have hx:=k3 dJ
    subst hx
    subst e
    exact ⟨by simp,by rw [lr,lr,get_guard k1]⟩
def closed (ops:Array Oper) (listed:Array Bool):Prop:=∀ k o,ops[k]?=some o→listed.getD k false=true→∀ e∈o.after,Region.binds .any e=true→listed.getD e.on false=true
theorem mr {listed:Array Bool} (hc:closed ops listed) {i:Nat}:∀ (f j:Nat) (oj:Oper),ops[j]?=some oj→(∀ e∈oj.after,Region.binds .any e=true→listed.getD e.on false=true)→dD ops f j i=true→listed.getD i false=true
 | 0,_,_,_,_,h=>by simp [dD] at h
 | f + 1,j,oj,hj,iU,h=>by
   simp only [dD,hj] at h
   obtain ⟨k,hk,he⟩:=Array.any_eq_true.1 h
   simp only [Ot,ab8,beq_iff_eq] at he
   have jO:oj.after[k]∈oj.after:=Array.getElem_mem hk
   have hl:=iU _ jO he.1
   rcases he.2 with e | e
   ·rw [← e];exact hl
   ·have hso:∃ o',ops[(oj.after[k]).on]?=some o':=by
     cases f with
     | zero=>simp [dD] at e
     | succ f=>
       cases ho:ops[(oj.after[k]).on]? with
       | none=>simp [dD,ho] at e
       | some o'=>exact ⟨o',rfl⟩
    obtain ⟨o',TM⟩:=hso
    exact mr hc f _ o' TM (hc _ _ TM hl) e
theorem qN {listed:Array Bool} {i:Nat} (h:listed.getD i true=false):listed.getD i false=false:=by
 simp only [abH] at *
 cases hx:listed[i]? with
 | none=>rfl
 | some b=>rw [hx] at h;simpa using h
theorem qO {listed:Array Bool} (hc:closed ops listed) {j:Nat} (hj:j∈Region.ready .any ops listed):closed ops (listed.setIfInBounds j true):=by
 obtain ⟨_,oj,TH,iU⟩:=mem_ready.1 hj
 intro k o ho hk e he hb
 refine getD_set_true ?_
 by_cases hkj:k=j
 ·subst hkj
  rw [TH] at ho
  cases ho
  exact iU e he hb
 ·rw [getD_set_ne false (Ne.symm hkj)] at hk
  exact hc k o ho hk e he hb
theorem DE {listed:Array Bool} {i j:Nat} {st:Bool} (h:oL ops il listed i st=true) (hj:j < ops.size) (Ia:j≠i) (hun:listed.getD j true=false) (jy:dD ops ops.size j i=false):tF st (il.getD i default) (il.getD j default)=true:=by
 unfold oL at h
 have:=abF.1 h j (abK.2 hj)
 simp only [ab8,beq_iff_eq,hun,jy,abO,or_false] at this
 rcases this with e | e
 ·exact absurd e Ia
 ·exact e
theorem DF {listed:Array Bool} {i j:Nat} {st:Bool} (h:oL ops il listed i st=true):oL ops il (listed.setIfInBounds j true) i st=true:=by
 unfold oL at *
 refine abF.2 fun k hk=>?_
 have:=abF.1 h k hk
 simp only [ab8] at this ⊢
 rcases this with ((e | e) | e) | e
 ·exact .inl (.inl (.inl e))
 ·refine .inl (.inl (.inr ?_))
  by_cases R6:j=k
  ·subst R6
   simp only [abH,ac9]
   split
   ·split <;> simp
   ·rename_i dJ;exact absurd trivial dJ
  ·rw [getD_set_ne true R6];exact e
 ·exact .inl (.inr e)
 ·exact .inr e
theorem DG {st:Bool} {oi oj:bJ} (h:tF st oi oj=true) :
 (∀ d,oi.dst=some d→d∉oj.lk∧oj.dst≠some d∧d∉oj.op.kill)∧(∀ d,oj.dst=some d→d∉oi.lk)∧(∀ s∈oj.op.kill,s∉oi.lk)∧(st=true→oj.op.TG=false∨(oj.op.z7=true∧oi.op.stays=true)):=by
 unfold tF at h
 simp only [Ot,ab8,abG] at h
 obtain ⟨⟨⟨h1,h2⟩,h3⟩,h4⟩:=h
 refine ⟨fun d hd=>?_,fun d hd=>?_,fun s hs=>?_,fun e=>?_⟩
 ·rw [hd] at h1
  simpa [and_assoc] using h1
 ·rw [hd] at h2
  simpa using h2
 ·have:=abF.1 h3 s hs
  simpa using this
 ·rcases h4 with (e2 | e2) | e2
  ·rw [e] at e2;cases e2
  ·exact .inl e2
  ·exact .inr e2
theorem sc {l:List bJ} {i:Nat} {o:bJ} (h:l[i]?=some o):l.getD i default=o:=by
 rw [rB,h];rfl
theorem JE (hK:Inv K) (di:il.length=ops.size) {i:Nat} {oi:bJ} {x:AV} {st:Bool} (hi:il[i]?=some oi):∀ (f:Nat) (listed:Array Bool) {env:Env} {H:List aa},closed ops listed→oL ops il listed i st=true→i∈Region.ready .any ops listed→
 XA P st oi env H x→xl P ops il K f (listed.setIfInBounds i true) (put oi.dst x env) H→xl P ops il K (f + 1) listed env H:=by
 intro f
 induction f with
 | zero=>
   intro listed env H jL zV hr ht hD
   refine ⟨fun h=>(by rw [h] at hr;cases hr),fun j hj=>?_⟩
   by_cases Ia:j=i
   ·subst Ia
    unfold qA
    simp only [hi]
    exact rZ (H9 ht) fun e1 e2 H' he ⟨h1,h2⟩=>by
     subst h1
     exact jh hK 0 _ (h2.symm.trans he) hD
   ·have:=ready_mono hj Ia
    rw [hD.1] at this
    cases this
 | succ f ih=>
   intro listed env H jL zV hr ht hD
   refine ⟨fun h=>(by rw [h] at hr;cases hr),fun j hj=>?_⟩
   by_cases Ia:j=i
   ·subst Ia
    unfold qA
    simp only [hi]
    exact rZ (H9 ht) fun e1 e2 H' he ⟨h1,h2⟩=>by
     subst h1
     exact jh hK (f + 1) _ (h2.symm.trans he) hD
   ·have h1:=hD.2 j (ready_mono hj Ia)
    obtain ⟨acL,oj',XB,iU⟩:=mem_ready.1 hj
    have hjs:j < ops.size:=(abS.1 XB).1
    have jy:dD ops ops.size j i=false:=by
     cases hma:dD ops ops.size j i with
     | false=>rfl
     | true=>
       have:=mr jL _ j oj' XB iU hma
       rw [qN (mem_ready.1 hr).1] at this
       cases this
    have XC:=DE zV hjs Ia acL jy
    rw [sc hi] at XC
    unfold qA at *
    cases TH:il[j]? with
    | none=>
      rw [List.getElem?_eq_none_iff] at TH
      omega
    | some oj=>
      rw [sc TH] at XC
      obtain ⟨a1,a2,a3,a4⟩:=DG XC
      simp only [TH] at h1 ⊢
      refine pA (env1:=put oi.dst x env) (fun s hs=>?_) h1 fun e1 e2 H' ⟨mods,hm,g1,g2⟩ hch hgr hk=>?_
      ·rw [lr]
       cases hd:oi.dst with
       | none=>rfl
       | some d=>
         simp only [TL,fW]
         rw [if_neg]
         intro e
         exact (a1 d hd).1 (e ▸ hs)
      ·have KP:∀ s∈oi.lk,∀ p∈mods,p.1≠s:=by
        intro s hs p hp e
        rcases hm p hp with h | h
        ·exact a2 _ h (e ▸ hs)
        ·exact a3 _ h (e ▸ hs)
       have hmd:∀ d,oi.dst=some d→∀ p∈mods,p.1≠d:=by
        intro d hd p hp e
        rcases hm p hp with h | h
        ·exact (a1 d hd).2.1 (e ▸ h)
        ·exact (a1 d hd).2.2 (e ▸ h)
       refine ih (listed.setIfInBounds j true) (qO jL hj) (DF zV) (ready_mono hr (Ne.symm Ia)) ?_ ?_
       ·refine JD (fun s hs=>?_) (fun e=>(a4 e).imp hch fun ⟨q1,q2⟩=>⟨q2,hgr q1⟩) ht
        rw [g2]
        exact lT (KP s hs)
       ·rw [Array.setIfInBounds_comm _ _ Ia]
        refine jh hK f _ ?_ hk
        rw [g1,lr,g2]
        cases hd:oi.dst with
        | none=>rfl
        | some d=>
          funext t
          simp only [TL,fW,put]
          by_cases htd:t=d
          ·subst htd
           rw [if_pos rfl,lT (hmd t hd)]
           simp [get]
          ·rw [if_neg htd]
           refine qv ?_ mods
           simp [get,htd]
theorem Pb (hK:Inv K) (di:il.length=ops.size):∀ (p:yY) (f:Nat) (listed:Array Bool) {env:Env} {H:List aa},closed ops listed→
 (vR ops il f listed none p=true→wg P (inst il p) env H K→xl P ops il K f listed env H)∧
 (∀ ks,(∀ i∈ks,i∈Region.ready .any ops listed)→vR ops il (f + 1) listed (some ks) p=true→wg P (inst il p) env H K→∀ i∈ks,qA P il i env H (xl P ops il K f (listed.setIfInBounds i true))):=by
 intro p
 induction p with
 | done=>
   intro f listed env H jL
   refine ⟨fun h hd=>?_,fun ks _ h _ i hi=>?_⟩
   ·have:Region.ready .any ops listed=[]:=by
     cases f <;> simpa [vR,List.isEmpty_iff] using h
    simp only [inst,wg] at hd
    cases f with
    | zero=>exact ⟨this,hd⟩
    | succ f=>exact ⟨fun _=>hd,fun i hi=>by rw [this] at hi;cases hi⟩
   ·cases ks with
    | nil=>cases hi
    | cons k ks=>simp [vR] at h
 | nil=>
   intro f listed env H jL
   refine ⟨fun h _=>by cases f <;> simp [vR] at h,fun ks _ h _ i hi=>?_⟩
   cases ks with
   | nil=>cases hi
   | cons k ks=>simp [vR] at h
 | take k st r ih=>
   intro f listed env H jL
   refine ⟨fun h hd=>?_,fun ks _ h _ i hi=>?_⟩
   ·cases f with
    | zero=>simp [vR] at h
    | succ f=>
      simp only [vR,Ot,List.contains_iff_mem] at h
      obtain ⟨⟨⟨hr,ah8⟩,zV⟩,hp⟩:=h
      obtain ⟨_,ok,jM,_⟩:=mem_ready.1 hr
      have FV:k < il.length:=by rw [di];exact (abS.1 jM).1
      have OT:il[k]?=some (il.getD k default):=by rw [rB,Oq FV];rfl
      simp only [inst,wg,uT] at hd
      have fin:∀ x,XA P st (il.getD k default) env H x→wg P (inst il r) (put (il.getD k default).dst x env) H K→xl P ops il K (f + 1) listed env H:=by
       intro x hx hrest
       exact JE hK di OT f listed jL zV hr hx ((ih f _ (qO jL hr)).1 hp hrest)
      cases hg:(il.getD k default).g with
      | none=>
        simp only [hg] at hd
        obtain ⟨x,hx,hrest⟩:=hd
        exact fin x ⟨aq env,fun _ _=>rfl,by simp only [hg];exact hx⟩ hrest
      | some gw=>
        obtain ⟨g,want⟩:=gw
        simp only [hg,jg] at hd
        split at hd
        rotate_left
        ·rename_i hb
         exact fin (.tuple []) ⟨aq env,fun _ _=>rfl,by simp only [hg];exact .inr ⟨hb,by trivial⟩⟩ hd
        ·exact hd.elim
        rename_i b hb
        by_cases H6:b=want
        ·obtain ⟨x,hx,hrest⟩:=hd.1 H6
         exact fin x ⟨aq env,fun _ _=>rfl,by simp only [hg];exact .inl ⟨b,hb,fun _=>hx,fun e=>absurd H6 e⟩⟩ hrest
        ·have hrest:=hd.2 (by cases b <;> cases want <;> first | rfl | exact absurd rfl H6)
         exact fin (.tuple []) ⟨aq env,fun _ _=>rfl,by simp only [hg];exact .inl ⟨b,hb,fun e=>absurd e H6,fun _=>by trivial⟩⟩ hrest
   ·cases ks with
    | nil=>cases hi
    | cons k ks=>simp [vR] at h
 | br k t rest Lt KO=>
   intro f listed env H jL
   have key:∀ (f:Nat) (ks:List Nat),(∀ i∈k::ks,i∈Region.ready .any ops listed)→vR ops il f (listed.setIfInBounds k true) none t=true→vR ops il (f + 1) listed (some ks) rest=true→wg P (inst il (.br k t rest)) env H K→
    ∀ i∈k::ks,qA P il i env H (xl P ops il K f (listed.setIfInBounds i true)):=by
    intro f ks FV h1 h2 hd i hi
    simp only [inst,wg] at hd
    rcases aai.1 hi with rfl | hi
    ·have hr:=FV i (by simp)
     obtain ⟨_,ok,jM,_⟩:=mem_ready.1 hr
     have aS:i < il.length:=by rw [di];exact (abS.1 jM).1
     have OT:il[i]?=some (il.getD i default):=by rw [rB,Oq aS];rfl
     unfold qA
     rw [OT]
     exact rZ hd.1 fun e1 e2 H' he hk=>jh hK f _ he ((Lt f _ (qO jL hr)).1 h1 hk)
    ·exact (KO f listed jL).2 ks (fun j hj=>FV j (by simp [hj])) h2 hd.2 i hi
   refine ⟨fun h hd=>?_,fun ks FV h hd i hi=>?_⟩
   ·cases f with
    | zero=>simp [vR] at h
    | succ f=>
      simp only [vR] at h
      split at h
      ·rename_i k' ks hrd
       simp only [Ot,beq_iff_eq] at h
       obtain ⟨⟨rfl,h1⟩,h2⟩:=h
       have:=key f ks (fun i hi=>by rw [hrd];exact hi) h1 h2 hd
       exact ⟨(fun e=>by rw [e] at hrd;cases hrd),fun i hi=>this i (by rw [hrd] at hi;exact hi)⟩
      ·cases h
   ·cases ks with
    | nil=>cases hi
    | cons k' ks=>
      simp only [vR,Ot,beq_iff_eq] at h
      obtain ⟨⟨rfl,h1⟩,h2⟩:=h
      exact key f ks FV h1 h2 hd i hi
end
end Go.aK
end
section
namespace Go.aK
open Go
section
variable {ro:Option Nat} {P:Program} {lo:Option Nat} {A:Perm} {n:Nat}
theorem oS {ops:Array Oper} {an:C1} {rid:Nat}:∀ (fuel k:Nat) (l:List Oper) (il:List bJ),fo P ops an n rid false fuel k l=some il→
 il.length=l.length∧∀ (j:Nat) (o:Oper),l[j]?=some o→∃ g,HZ ops o=some g∧HY n o=true∧il[j]?=some ⟨g,o.dst,Dt P o (an.at_ rid (k + j))⟩
 | _,_,[],il,hc=>by
   unfold fo at hc
   cases hc
   exact ⟨rfl,fun j o h=>by simp at h⟩
 | 0,_,o::r,il,hc=>by simp [fo] at hc
 | fuel + 1,k,o::r,il,hc=>by
   unfold fo at hc
   simp only [abO,and_false,if_false] at hc
   split at hc <;> try cases hc
   rename_i g xs hg fx
   split at hc <;> cases hc
   rename_i gR
   obtain ⟨h1,h2⟩:=oS fuel (k + 1) r xs fx
   refine ⟨by simp [h1],fun j o' hj=>?_⟩
   cases j with
   | zero=>
     simp at hj
     subst hj
     exact ⟨g,hg,gR,by simp⟩
   | succ j=>
     simp at hj
     obtain ⟨g',e1,e2,e3⟩:=h2 j o' hj
     exact ⟨g',e1,e2,by simp [e3,acO,aeW 1 j]⟩
theorem u0 {ops:Array Oper} {il:List bJ} {an:C1} {rid:Nat} {L0:List Nat} {M0:Mem} {w0:World} {K:Env→List aa→Prop} {Q:Exit→Act→World→Prop}
 (hp:∀ l,lo=some l→∀ id,l≤id→A.top id=none) (hc:fo P ops an n rid false (ops.size + 1) 0 ops.toList=some il)
 (hF:∀ (M:Mem) (L:List Nat) (w:World) (H:List aa) (env:Env) (O:Pos→Option Nat) (a:Act),K env H→Fr A n M L w H env O a→Ext A M0 w0 M w→L0 <+: L→Q .normal a w) :
 ∀ (f:Nat) (listed:Array Bool) {M:Mem} {L:List Nat} {w:World} {H:List aa} {env:Env} {O:Pos→Option Nat} {a:Act},Fr A n M L w H env O a→Ext A M0 w0 M w→L0 <+: L→xl ⟨P,lo⟩ ops il K f listed env H→wpAnyIn (wf ro) 0 P .any ops Q f listed a w
 | 0,_,_,_,_,_,_,_,_,hf,cP,hL,h=>⟨h.1,hF _ _ _ _ _ _ _ h.2 hf cP hL⟩
 | f + 1,listed,M,L,w,H,env,O,a,hf,cP,hL,h=>by
   refine ⟨fun h0=>hF _ _ _ _ _ _ _ (h.1 h0) hf cP hL,fun i hi=>?_⟩
   have hq:=h.2 i hi
   unfold wpOpIn
   cases ho:ops[i]? with
   | none=>
     obtain ⟨_,o,TM,_⟩:=mem_ready.1 hi
     rw [ho] at TM;cases TM
   | some o=>
     obtain ⟨g,hg,gR,y8⟩:=(oS _ _ _ _ hc).2 i o (by simpa using ho)
     unfold qA at hq
     rw [y8] at hq
     have hs:=z9 (ro:=ro) (ops:=ops) hg gR hp hf hq Q
     have hrest:∀ a' w',n7 A n M L w (xl ⟨P,lo⟩ ops il K f (listed.setIfInBounds i true)) a' w'→wpAnyIn (wf ro) 0 P .any ops Q f (listed.setIfInBounds i true) a' w':=by
      rintro a' w' ⟨M',L',H',aL,O',k1,k2,k3,k4⟩
      exact u0 hp hc hF f _ k2 (cP.trans k3) (hL.trans k4) k1
     simp only
     split
     ·rename_i hw
      rw [if_pos hw] at hs
      exact Oper.wpIn_mono hrest hs
     ·rename_i hw
      rw [if_neg hw] at hs
      exact ⟨fun _ _=>trivial,hrest _ _ hs⟩
theorem JF (L0:List Nat) (hp:∀ l,lo=some l→∀ id,l≤id→A.top id=none):Aa P ro lo A n L0:=by
 intro id ops il p live an M L w H env O a M0 w0 Q hm hB hc h hf cP hL
 simp only [mO] at h
 have hK:Inv (fun (aL:Env) (H':List aa)=>∃ e,get e=get aL∧Q .normal (eZ live e) H'):=fun e1 e2 H he ⟨e,h1,h2⟩=>⟨e,h1.trans he,h2⟩
 have di:il.length=ops.size:=by simpa using (oS _ _ _ _ hc).1
 have hB:=Ls di p _ _ _ _ (Jx _) (by simp) hB
 have jL:closed ops (Array.replicate ops.size false):=by
  intro k o _ hk
  simp only [abH,ae9] at hk
  split at hk <;> cases hk
 have hd:wg ⟨P,lo⟩ (inst il p) env H (fun (aL:Env) (H':List aa)=>∃ e,get e=get aL∧Q .normal (eZ live e) H'):=by
  have mono:∀ (t:DT) (env:Env) (H:List aa) (K1 K2:Env→List aa→Prop),(∀ e H,K1 e H→K2 e H)→Inv K2→wg ⟨P,lo⟩ t env H K1→wg ⟨P,lo⟩ t env H K2:=by
   intro t
   induction t with
   | done=>intro env H K1 K2 hk _ h;exact hk _ _ h
   | nil=>intro _ _ _ _ _ _ _;trivial
   | take st o r ih=>
     intro env H K1 K2 hk hi h
     simp only [wg,uT] at h ⊢
     cases hg:o.g with
     | none=>
       simp only [hg] at h ⊢
       obtain ⟨x,hx,h⟩:=h
       exact ⟨x,hx,ih _ _ _ _ hk hi h⟩
     | some gw=>
       obtain ⟨g,want⟩:=gw
       simp only [hg,jg] at h ⊢
       split at h
       rotate_left
       ·exact ih _ _ _ _ hk hi h
       ·exact h.elim
       exact ⟨fun e=>let ⟨x,hx,h⟩:=h.1 e;⟨x,hx,ih _ _ _ _ hk hi h⟩,fun e=>ih _ _ _ _ hk hi (h.2 e)⟩
   | br o t rest Lt KO=>
     intro env H K1 K2 hk hi h
     have hinv:∀ K:Env→List aa→Prop,Inv K→∀ t,Inv fun env H=>wg ⟨P,lo⟩ t env H K:=by
      intro K hK t
      induction t with
      | done=>exact hK
      | nil=>intro _ _ _ _ _;trivial
      | take st o r ih=>
        intro e1 e2 H he h
        simp only [wg,uT] at h ⊢
        have hav:aq e2=aq e1:=by
         funext i
         cases i with
         | c v=>rfl
         | t s=>show get e2 s=get e1 s;rw [he]
        have oG:∀ x,get (put o.dst x e1)=get (put o.dst x e2):=fun x=>by rw [lr,lr,he]
        cases hg:o.g with
        | none=>
          simp only [hg] at h ⊢
          obtain ⟨x,hx,h⟩:=h
          exact ⟨x,by rw [hav];exact hx,ih _ _ _ (oG x) h⟩
        | some gw=>
          obtain ⟨g,want⟩:=gw
          simp only [hg,jg] at h ⊢
          rw [← he]
          split at h
          rotate_left
          ·exact ih _ _ _ (oG _) h
          ·exact h.elim
          exact ⟨fun e=>let ⟨x,hx,h⟩:=h.1 e;⟨x,by rw [hav];exact hx,ih _ _ _ (oG x) h⟩,fun e=>ih _ _ _ (oG _) (h.2 e)⟩
      | br o t rest Lt KO=>
        intro e1 e2 H he h
        exact ⟨pA (fun s _=>by rw [he]) h.1 fun a b H' ⟨mods,_,g1,g2⟩ _ _ hk=>Lt _ _ _ (by rw [g1,g2,de he]) hk,KO _ _ _ he h.2⟩
     exact ⟨rZ h.1 fun e1 e2 H' he vf=>hinv K2 hi t _ _ _ he (Lt _ _ _ _ hk hi vf),KO _ _ _ _ hk hi h.2⟩
  exact mono _ _ _ _ _ (fun e H hq=>⟨e,rfl,hq⟩) hK h
 have hA:=(Pb (P:=⟨P,lo⟩) hK di p ops.size (Array.replicate ops.size false) (env:=env) (H:=H) jL).1 hB hd
 refine wpIn_region_any hm (u0 (M0:=M0) (w0:=w0) (L0:=L0) hp hc ?_ ops.size _ (M:=M) (L:=L) (H:=H) (env:=env) (O:=O) ⟨hf.st.drew,hf.size,hf.defers.ext (Ext.drew (M:=M))⟩ (cP.trans Ext.drew) hL hA)
 rintro M' L' w' H' aL O' a' ⟨e,he,hq⟩ h2 h3 h4
 obtain ⟨O'',h5⟩:=(h2.F8 he).weaken (z8 live e)
 exact ⟨A,M',L',H',_,O'',.refl A,hq,h5,h3,h4⟩
theorem Gg {L0:List Nat} {an:C1} {lv:l8} {pl:l9} (c:Code) (ir:IR) (hc:comp P an lv pl n c=some ir) {M:Mem} {L:List Nat} {w:World} {H:List aa} {env:Env} {O:Pos→Option Nat} {a:Act} {Q:Exit→Env→List aa→Prop}
 (hA:fZ lo L0.length A) (yU:Own ro w) (h:mO ⟨P,lo⟩ L0.length ir env H Q) (hf:Fr A n M L w H env O a) (hL:L0 <+: L):c.wpIn (wf ro) 0 P (F7 A n M L0 w Q) a w:=
 sound (fun A hA=>JF L0 hA.opens) c ir hc hA yU h hf hL
end
end Go.aK
end
