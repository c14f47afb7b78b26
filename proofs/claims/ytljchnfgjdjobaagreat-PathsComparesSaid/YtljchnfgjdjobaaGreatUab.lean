/- Part 2 of 19 of the proof. -/
import Derived.Test.YtljchnfgjdjobaaGreatUaa
import Derived.RangeFuncNested
set_option linter.unusedVariables false
set_option linter.unusedSimpArgs false
set_option linter.defProp false
set_option linter.unusedSectionVars false
section
namespace Go.aI
open Go
def tZ (xs:List AV) (H:List aa) (K:AV→List aa→Prop):Prop:=
 aj (H.length + 1) ((flat xs).map AV.ab)=true∧K (.aW H.length 0 xs.length xs.length) (H++[.cells ((flat xs).map AV.ab)])
def cP (z:AV) (n:Nat):List AV:=flat (List.replicate n (bP z))
def cS (esz bytes:Nat) (z s x:AV) (H:List aa) (K:AV→List aa→Prop):Prop:=
 match dn x with
 | none=>(match s,v9 esz x H with
   | .aW id off len cap,some (n,ys)=>match H[id]? with
     | some (.cells es)=>n * esz≤ys.length∧(ys.take (n * esz)).all AV.one=true∧len + n≤cap∧off + cap * esz≤es.length∧aj (id + 1) ((ys.take (n * esz)).map AV.ab)=true∧
        K (.aW id off (len + n) cap) (H.set id (.cells (ah es (off + len * esz) ((ys.take (n * esz)).map AV.ab))))
     | _=>False
   | _,_=>False)
 | some ys=>qP esz ys∧match s with
   | .ag=>ys.length * bytes≤140737488355328∧(ys=[]→K .ag H)∧(ys≠[]→∀ cap,ys.length≤cap→cap < 9223372036854775808→
      aj (H.length + 1) ((flat ys).map AV.ab++cP z (cap - ys.length))=true∧K (.aW H.length 0 ys.length cap) (H++[.cells ((flat ys).map AV.ab++cP z (cap - ys.length))]))
   | .nL=>ys.length * bytes≤140737488355328∧(ys=[]→K .nL H)∧(ys≠[]→∀ cap,ys.length≤cap→cap < 9223372036854775808→
      aj (H.length + 1) ((flat ys).map AV.ab++cP z (cap - ys.length))=true∧K (.aW H.length 0 ys.length cap) (H++[.cells ((flat ys).map AV.ab++cP z (cap - ys.length))]))
   | .aW id off len cap=>match H[id]? with
     | some (.cells es)=>(len + ys.length) * bytes≤140737488355328∧len≤cap∧off + cap * esz≤es.length∧
        (len + ys.length≤cap→aj (id + 1) ((flat ys).map AV.ab)=true∧K (.aW id off (len + ys.length) cap) (H.set id (.cells (ah es (off + len * esz) ((flat ys).map AV.ab)))))∧
        (cap < len + ys.length→∀ dC,len + ys.length≤dC→dC < 9223372036854775808→
          aj (H.length + 1) (((es.drop off).take (len * esz)).map AV.ab++(flat ys).map AV.ab++cP z (dC - (len + ys.length)))=true∧
          K (.aW H.length 0 (len + ys.length) dC) (H++[.cells (((es.drop off).take (len * esz)).map AV.ab++(flat ys).map AV.ab++cP z (dC - (len + ys.length)))]))
     | _=>False
   | _=>False
def jh (lm:Nat→Nat) (esz bytes:Nat) (z s x:AV) (H:List aa) (K:AV→List aa→Prop):Prop:=
 match dn x with
 | none=>(match s,v9 esz x H with
   | .aW id off len cap,some (n,ys)=>match H[id]? with
     | some (.cells es)=>n * esz≤ys.length∧(ys.take (n * esz)).all AV.one=true∧len + n≤cap∧off + cap * esz≤es.length∧aj (lm id) ((ys.take (n * esz)).map AV.ab)=true∧
        K (.aW id off (len + n) cap) (H.set id (.cells (ah es (off + len * esz) ((ys.take (n * esz)).map AV.ab))))
     | _=>False
   | _,_=>False)
 | some ys=>qP esz ys∧match s with
   | .ag=>ys.length * bytes≤140737488355328∧(ys=[]→K .ag H)∧(ys≠[]→∀ cap,ys.length≤cap→cap < 9223372036854775808→
      aj (H.length + 1) ((flat ys).map AV.ab++cP z (cap - ys.length))=true∧K (.aW H.length 0 ys.length cap) (H++[.cells ((flat ys).map AV.ab++cP z (cap - ys.length))]))
   | .nL=>ys.length * bytes≤140737488355328∧(ys=[]→K .nL H)∧(ys≠[]→∀ cap,ys.length≤cap→cap < 9223372036854775808→
      aj (H.length + 1) ((flat ys).map AV.ab++cP z (cap - ys.length))=true∧K (.aW H.length 0 ys.length cap) (H++[.cells ((flat ys).map AV.ab++cP z (cap - ys.length))]))
   | .aW id off len cap=>match H[id]? with
     | some (.cells es)=>(len + ys.length) * bytes≤140737488355328∧len≤cap∧off + cap * esz≤es.length∧
        (len + ys.length≤cap→aj (lm id) ((flat ys).map AV.ab)=true∧K (.aW id off (len + ys.length) cap) (H.set id (.cells (ah es (off + len * esz) ((flat ys).map AV.ab)))))∧
        (cap < len + ys.length→∀ dC,len + ys.length≤dC→dC < 9223372036854775808→
          aj (H.length + 1) (((es.drop off).take (len * esz)).map AV.ab++(flat ys).map AV.ab++cP z (dC - (len + ys.length)))=true∧
          K (.aW H.length 0 (len + ys.length) dC) (H++[.cells (((es.drop off).take (len * esz)).map AV.ab++(flat ys).map AV.ab++cP z (dC - (len + ys.length)))]))
     | _=>False
   | _=>False
theorem CB (esz bytes:Nat) (z s x:AV) (H:List aa) (K:AV→List aa→Prop):cS esz bytes z s x H K=jh (· + 1) esz bytes z s x H K:=rfl
def fp (lo esz bytes:Nat) (z s x:AV) (H:List aa) (K:AV→List aa→Prop):Prop:=
 (∀ id off len cap,s=.aW id off len cap→lo≤id)∧jh (fun _=>H.length) esz bytes z s x H K
def jb (esz:Nat) (z x:AV) (H:List aa) (K:List aa→Prop):Prop:=
 match x with
 | .aW id off len _=>match H[id]? with
   | some (.cells es)=>off + len * esz≤es.length∧(cP z len).all AV.one=true∧aj (id + 1) ((cP z len).map AV.ab)=true∧K (H.set id (.cells (ah es off ((cP z len).map AV.ab))))
   | _=>False
 | _=>False
section
variable {P:Program} {w:World} {M:Mem} {L:List Nat} {H:List aa} {A:Perm} {ev:Nat→Value} {ea:Nat→AV} {O:Pos→Option Nat}
theorem lg {α:Type} (es:List α) (off:Nat):ah es off []=es:=by simp [ah]
theorem St.CC (hs:St A M L w H ev ea O) (cs:Array Value) (e:TypeId) {xs:List AV} (hr:aN M L cs.toList xs) (hb:aj (H.length + 1) xs=true) (hf:∀ y∈xs,∀ own zs,y=.ap own zs→own=0) :
 St A M (L++[w.heap.size]) { w with heap:=w.heap.push (.cells cs e) } (H++[.cells xs]) ev ea O∧Ext A M w M { w with heap:=w.heap.push (.cells cs e) }:=
 hs.sw (.cells cs e) (.cells xs) (fun w' hw hM=>⟨_,e,hw,hr.mono (Mem.bT M) ⟨_,rfl⟩,hM⟩) (by simpa [aa.a9] using hb) (fun j=>by
  simp only [nP]
  refine bj.free ?_
  intro own zs hh
  rw [oM] at hh
  cases hx:xs[j]? with
  | none=>simp [hx] at hh
  | some y=>simp [hx] at hh;exact hf y (aaI hx) own zs hh)
theorem nY (xs:List AV):∀ y∈xs.map AV.ab,∀ own zs,y=.ap own zs→own=0:=by
 intro y hy own zs e
 obtain ⟨q,_,rfl⟩:=aaq.1 hy
 exact AV.bO q own zs e
theorem E1 {z:AV} (Ct:∀ y∈z.cells,∀ own xs,y=.ap own xs→own=0) (n:Nat):∀ y∈cP z n,∀ own zs,y=.ap own zs→own=0:=by
 intro y hy own zs e
 simp only [cP,flat,aen] at hy
 obtain ⟨q,hq,NZ⟩:=hy
 rw [aa4 hq] at NZ
 subst e
 cases z <;> simp only [bP,AV.cells] at NZ Ct
 case agg ys=>
  obtain ⟨y',_,hy'⟩:=aaq.1 NZ
  exact AV.jU y' own zs hy'
 all_goals exact Ct _ NZ own zs rfl
theorem Ir (hs:St A M L w H ev ea O) {t e:TypeId} (ht:P.underlying t=some (.slice e)) {esz:Nat} (he:dL P e=some esz) (h0:0 < esz) {z:AV} (hz:fK P e=some z) (gC:z.cells.length=esz) (pH:z.val=true)
 {len:Nat} (hlen:len * esz≤16777216) {parts:List (Nat×AV)} {vs:Array (Nat×Value)} (hp:∀ (j:Nat) (p:Nat×AV),parts[j]?=some p→∃ v,vs.toList[j]?=some (p.1,v)∧aT M L v p.2) (hl:vs.toList.length=parts.length)
 {K:AV→List aa→Prop} (h:bu (List.replicate len (aV z)) esz parts fun xs=>tZ xs H K) :
 ∃ r x L' w' H',(Instr.buildSlice t len vs).run P w=.ok r w'∧aT M L' r x∧(∀ own xs,x=.ap own xs→own=0)∧K x H'∧St A M L' w' H' ev ea O∧Ext A M w M w'∧L <+: L':=by
 unfold fK at hz
 obtain ⟨ie,Kg,db⟩:=tM.1 he
 simp only [Kg] at hz
 split at hz
 ·rename_i zv sC
  have Cm:=(cL (M:=M) (L:=L) hz).aV.gA (sB pH)
  have vj:zv.cells.size=esz:=by have:=Cm.length;rw [fg,gC] at this;simpa using this
  obtain ⟨cs',xs',f1,f2,f3,f4,f5⟩:=nW (M:=M) (L:=L) esz parts vs.toList hp hl (kg zv.cells esz len vj h0 (aV z) Cm) (fun y hy=>by rw [aa4 hy,fg];exact gC) h
  simp only [acj] at f4
  obtain ⟨mj,hK⟩:=f5
  have bL:(Instr.buildSlice t len vs).run P w=.ok (.slice (some ⟨w.heap.size,0,none⟩) len len) { w with heap:=w.heap.push (.cells cs' e) }:=by
   by_cases nE:len * ie.size=0
   ·have Co:len=0:=by
     rcases Nat.mul_eq_zero.1 nE with h' | h'
     ·exact h'
     ·omega
    subst Co
    have NU:cs'=#[]:=by
     have:=f2.length
     rw [cM _ esz f3,f4] at this
     simp at this
     exact this
    have Wg:vs.toList=[]:=by
     cases yf:vs.toList with
     | nil=>rfl
     | cons q r=>
       rw [yf] at hl
       cases parts with
       | nil=>simp at hl
       | cons p ps=>obtain ⟨_,_,h3,_⟩:=h;simp at h3
    subst NU
    have hf:Instr.fill (fun i=>some (i * ie.size,ie.size)) #[] vs.toList=some #[]:=by rw [Wg];rfl
    simp [Instr.buildSlice,run_underlying ht,sizeOf,typeInfo,Kg,newRow,Wg,Instr.fill]
    congr 2
    apply Array.ext'
    simp
   ·rw [run_buildSlice w t e len vs cs' ie zv ht Kg sC (by rw [db];omega) nE (by rw [db];exact f1)]
    rfl
  obtain ⟨g1,g2⟩:=hs.CC cs' e f2.dg mj (nY _)
  have hbd:len < 9223372036854775808:=by
   have:len≤len * esz:=abb _ h0
   omega
  refine ⟨_,.aW H.length 0 len len,_,_,_,bL,.aW w.heap.size 0 _ _ H.length ?_ hbd,(by intro _ _ e;cases e),by rw [f4] at hK;exact hK,g1,g2,⟨_,rfl⟩⟩
  rw [aaE (by rw [hs.len];exact oN _),hs.len];simp
 ·cases hz
theorem ra (hs:St A M L w H ev ea O) {t ty e:TypeId} {i:TypeInfo} {zv:Value} {esz bytes:Nat} (ht:P.underlying t=some (.slice e)) (hi:P.info? e=some i) (hz:i.zero=some zv) (db:i.size=esz) (sq:i.bytes=bytes) (h0:0 < esz) (qQ:0 < bytes)
 {z:AV} (GR:ofValue zv=some z) (pH:z.val=true) (gC:z.cells.length=esz) (Ct:∀ y∈z.cells,∀ own xs,y=.ap own xs→own=0) {u v:Value} {s x:AV} {K:AV→List aa→Prop} {lm:Nat→Nat} (N2:∀ id off len cap,s=.aW id off len cap→id < H.length→lm id≤A.iH H.length id) (h:jh lm esz bytes z s x H K) (hu:aT M L u s) (hv:aT M L v x) :
 ∃ r y L' w' H' O',(Builtin.append_ #[t,t] ty #[u,v]).run P w=.ok r w'∧aT M L' r y∧(∀ own xs,y=.ap own xs→own=0)∧K y H'∧St A M L' w' H' ev ea O'∧Ext A M w M w'∧L <+: L':=by
 unfold jh at h
 split at h
 ·-- out of an object
  rename_i hnone
  split at h <;> try exact h.elim
  rename_i id off len cap n ys wc
  split at h <;> try exact h.elim
  rename_i es bm
  obtain ⟨hny,k8,hroom,uO,mj,hK⟩:=h
  cases hu with
  | aW b _ _ _ _ hl hc=>
  obtain ⟨cs,e',h1,h2,h3⟩:=fB hs bm hl
  have jr:=h2.length
  have yg:(len + n) * esz≤cap * esz:=abB _ hroom
  rw [aaU] at yg
  unfold v9 at wc
  split at wc
  ·simp [dn] at hnone
  ·simp [dn] at hnone
  ·rename_i id2 off2 Wr Ws
   split at wc <;> try cases wc
   rename_i es2 N3
   split at wc <;> cases wc
   rename_i hfit2
   cases hv with
   | aW b2 _ _ _ _ oU mB=>
   obtain ⟨cs2,e2,k1,k2,k3⟩:=fB hs N3 oU
   have agp:=k2.length
   by_cases Cs:n=0
   ·subst Cs
    simp only [aeJ,List.take_zero,List.map_nil,lg,aev] at hK
    have es':H.set id (.cells es)=H:=by
     obtain ⟨lM,e1⟩:=aaz.1 bm
     rw [← e1];simp
    rw [es'] at hK
    exact ⟨_,.aW id off len cap,L,w,H,O,dw ht hi w _ len cap (by omega) _ Ws,.aW b off len cap id hl hc,(by intro _ _ e;cases e),hK,hs,Ext.refl A M w,aau L⟩
   ·have vn:((cs2.toList.drop off2).take (n * esz)).length=n * esz:=by
     rw [aa3,ael];omega
    have hnews:∀ j u,((cs2.toList.drop off2).take (n * esz))[j]?=some u→w.cell? ((⟨b2,off2,none⟩:Addr).add j)=some u:=fun j u hu=>by
     rw [Addr.add_lit];exact k3 _ _ (dt _ _ _ _ _ hu)
    have Ay:aN M L ((cs2.toList.drop off2).take (n * esz)) ((es2.drop off2).take (n * esz)):=(k2.drop off2).take _
    have Wt:=Ay.gX k8
    have bL:=gD (P:=P) (ty:=ty) ht hi w b off len cap cs (0,0) h1 (oO _) ⟨b2,off2,none⟩ n Ws ((cs2.toList.drop off2).take (n * esz)) (by rw [db];exact vn) hnews Wt hroom (by
     have:es.length=cs.size:=by rw [← jr];simp
     rw [db,vn];omega)
    rw [db] at bL
    obtain ⟨O',g1,g2⟩:=hs.AF (off:=off + len * esz) bm hl h1 h2 Ay (by rw [aa3,ael];omega) (bD (N2 _ _ _ _ rfl (aO bm)) _ mj)
    exact ⟨_,.aW id off (len + n) cap,L,_,_,O',bL,.aW b off _ cap id hl hc,(by intro _ _ e;cases e),hK,g1,g2,aau L⟩
  ·cases wc
 rename_i ys qR
 obtain ⟨jt,h⟩:=h
 have Cm:=(cL (M:=M) (L:=L) GR).bP.gA (pZ pH)
 have vj:zv.cells.size=esz:=by have:=Cm.length;rw [jM,gC] at this;simpa using this
 have hesz0:esz≠0:=by omega
 have Kq:∀ n,aN M L (Builtin.zeroCells zv.cells n).toList (cP z n):=fun n=>by
  have:=kg (M:=M) (L:=L) zv.cells esz n vj h0 (bP z) Cm
  rw [Builtin.zeroCells,vj]
  rw [vj] at this
  exact this
 -- a new row
 have grow:∀ (olds news:List Value) (xs:List AV) (k need oldCap:Nat) (w':World),aN M L olds xs→aN M L news (flat ys)→need≤maxLen→
  w'=w.drew.alloc (.cells (olds.toArray++news.toArray++Builtin.zeroCells zv.cells (grownCap w need oldCap e - need)) e)→
  (Builtin.append_ #[t,t] ty #[u,v]).run P w=.ok (.slice (some ⟨w.heap.size,0,none⟩) need (grownCap w need oldCap e)) w'→
  (∀ dC,need≤dC→dC < 9223372036854775808→aj (H.length + 1) (xs.map AV.ab++(flat ys).map AV.ab++cP z (dC - need))=true∧K (.aW H.length 0 need dC) (H++[.cells (xs.map AV.ab++(flat ys).map AV.ab++cP z (dC - need))]))→
  ∃ r y L' w' H' O',(Builtin.append_ #[t,t] ty #[u,v]).run P w=.ok r w'∧aT M L' r y∧(∀ own xs,y=.ap own xs→own=0)∧K y H'∧St A M L' w' H' ev ea O'∧Ext A M w M w'∧L <+: L':=by
  intro olds news xs k need oldCap w' Wj Ay hneed Kj bL hK
  have jV:=grownCap_ge w need oldCap e
  have hle:=grownCap_le_maxLen w need oldCap e hneed
  simp only [maxLen] at hle
  obtain ⟨mj,hK⟩:=hK _ jV (by omega)
  obtain ⟨g1,g2⟩:=hs.drew.CC (olds.toArray++news.toArray++Builtin.zeroCells zv.cells (grownCap w need oldCap e - need)) e (xs:=xs.map AV.ab++(flat ys).map AV.ab++cP z (grownCap w need oldCap e - need))
   (by rw [aeP,aeP];exact (Wj.dg.append Ay.dg).append (Kq _)) mj (by
     intro y hy
     rcases aaO.1 hy with hy | hy
     ·rcases aaO.1 hy with hy | hy
      ·exact nY _ y hy
      ·exact nY _ y hy
     ·exact E1 Ct _ y hy)
  subst Kj
  refine ⟨_,.aW H.length 0 need (grownCap w need oldCap e),L++[w.heap.size],_,_,O,bL,.aW w.heap.size 0 _ _ H.length ?_ (by omega),(by intro _ _ e;cases e),hK,g1,Ext.drew.trans g2,⟨_,rfl⟩⟩
  rw [aaE (by rw [hs.len];exact oN _),hs.len];simp
 split at h <;> try exact h.elim
 ·-- onto nothing
  obtain ⟨hbound,hn,hc⟩:=h
  cases hu
  rcases mA qR jt hv with ⟨rfl,b',c',rfl⟩ | ⟨Cs,b2,o2,c2,news,rfl,Ay,Q0,vn⟩
  ·exact ⟨_,.ag,L,w,H,O,dw ht hi w none 0 0 (oN _) b' c',.ag,(by intro _ _ e;cases e),hn rfl,hs,Ext.refl A M w,aau L⟩
  ·have hnews:∀ j u,news[j]?=some u→w.cell? ((⟨b2,o2,none⟩:Addr).add j)=some u:=iS Q0 hs.mem
   have hlen:ys.length≤140737488355328:=aa1 (abb _ qQ) hbound
   have hbound':ys.length * i.bytes≤140737488355328:=by rw [sq];exact hbound
   have hr:=run_append_nil (P:=P) w t ty e i zv ht hi hz ⟨b2,o2,none⟩ ys.length c2 news (by rw [db];exact vn) hnews Cs (by omega) (by first | omega | (simp at hbound';omega))
   refine grow [] news [] 0 ys.length 0 _ .nil Ay (by simp only [maxLen];omega) rfl (by simpa using hr) fun dC h1 h2=>?_
   have:=hc (by intro e;rw [e] at Cs;simp at Cs) dC h1 h2
   simpa using this
 ·-- onto what is empty
  obtain ⟨hbound,hn,hc⟩:=h
  cases hu with
  | nL ad=>
  rcases mA qR jt hv with ⟨rfl,b',c',rfl⟩ | ⟨Cs,b2,o2,c2,news,rfl,Ay,Q0,vn⟩
  ·exact ⟨_,.nL,L,w,H,O,dw ht hi w ad 0 0 (oN _) b' c',.nL _,(by intro _ _ e;cases e),hn rfl,hs,Ext.refl A M w,aau L⟩
  ·have hnews:∀ j u,news[j]?=some u→w.cell? ((⟨b2,o2,none⟩:Addr).add j)=some u:=iS Q0 hs.mem
   have hlen:ys.length≤140737488355328:=aa1 (abb _ qQ) hbound
   have hbound':ys.length * i.bytes≤140737488355328:=by rw [sq];exact hbound
   have hK:∀ dC,ys.length≤dC→dC < 9223372036854775808→aj (H.length + 1) (([]:List AV).map AV.ab++(flat ys).map AV.ab++cP z (dC - ys.length))=true∧K (.aW H.length 0 ys.length dC) (H++[.cells (([]:List AV).map AV.ab++(flat ys).map AV.ab++cP z (dC - ys.length))]):=fun dC h1 h2=>by
    have:=hc (by intro e;rw [e] at Cs;simp at Cs) dC h1 h2
    simpa using this
   cases ad with
   | none=>
     have hr:=run_append_nil (P:=P) w t ty e i zv ht hi hz ⟨b2,o2,none⟩ ys.length c2 news (by rw [db];exact vn) hnews Cs (by omega) (by first | omega | (simp at hbound';omega))
     exact grow [] news [] 0 ys.length 0 _ .nil Ay (by simp only [maxLen];omega) rfl (by simpa using hr) hK
   | some ad=>
     have hr:=run_append_grow (P:=P) w t ty e i zv ht hi hz ad 0 0 [] (by simp) (fun j v hv=>by simp at hv)
      ⟨b2,o2,none⟩ ys.length c2 news (by rw [db];exact vn) hnews (by omega) (by omega) (growslice_fits (by omega) (by simpa using hbound'))
     simp only [aaQ] at hr
     exact grow [] news [] 0 ys.length 0 _ .nil Ay (by simp only [maxLen];omega) rfl hr hK
 ·rename_i id off len cap
  split at h <;> try exact h.elim
  rename_i es bm
  obtain ⟨hbound,Av,uO,nF,J7⟩:=h
  cases hu with
  | aW b _ _ _ _ hl hc=>
  obtain ⟨cs,e',h1,h2,h3⟩:=fB hs bm hl
  have jr:=h2.length
  rcases mA qR jt hv with ⟨rfl,b',c',rfl⟩ | ⟨Cs,b2,o2,c2,news,rfl,Ay,Q0,vn⟩
  ·obtain ⟨_,hK⟩:=nF (by simpa using Av)
   simp only [flat,aeE,List.map_nil,lg,List.length_nil,aev] at hK
   have es':H.set id (.cells es)=H:=by
    obtain ⟨lM,e1⟩:=aaz.1 bm
    rw [← e1];simp
   rw [es'] at hK
   exact ⟨_,.aW id off len cap,L,w,H,O,dw ht hi w _ len cap Av b' c',.aW b off len cap id hl hc,(by intro _ _ e;cases e),hK,hs,Ext.refl A M w,aau L⟩
  ·have hnews:∀ j u,news[j]?=some u→w.cell? ((⟨b2,o2,none⟩:Addr).add j)=some u:=iS Q0 hs.mem
   have k8:=Ay.gX (Cq jt)
   have N1:(flat ys).length=ys.length * esz:=cM ys esz (fun y hy=>(jt y hy).1)
   by_cases hroom:len + ys.length≤cap
   ·obtain ⟨mj,hK⟩:=nF hroom
    have yg:(len + ys.length) * esz≤cap * esz:=abB _ hroom
    rw [aaU] at yg
    have agq:es.length=cs.size:=by rw [← jr];simp
    have bL:=gD (P:=P) (ty:=ty) ht hi w b off len cap cs (0,0) h1 (oO _) ⟨b2,o2,none⟩ ys.length c2 news (by rw [db];exact vn) hnews k8 hroom (by rw [db,vn];omega)
    rw [db] at bL
    obtain ⟨O',g1,g2⟩:=hs.AF (off:=off + len * esz) bm hl h1 h2 Ay (by rw [N1];omega) (bD (N2 _ _ _ _ rfl (aO bm)) _ mj)
    exact ⟨_,.aW id off (len + ys.length) cap,L,_,_,O',bL,.aW b off _ cap id hl hc,(by intro _ _ e;cases e),hK,g1,g2,aau L⟩
   ·have hlen:(len + ys.length)≤140737488355328:=aa1 (abb _ qQ) hbound
    have hbound':(len + ys.length) * i.bytes≤140737488355328:=by rw [sq];exact hbound
    have yg:len * esz≤cap * esz:=abB _ Av
    have abh:((cs.toList.drop off).take (len * esz)).length=len * esz:=by rw [aa3,ael];omega
    have hr:=run_append_grow (P:=P) w t ty e i zv ht hi hz ⟨b,off,none⟩ len cap ((cs.toList.drop off).take (len * esz)) (by rw [db];exact abh) (fun j v hv=>by rw [Addr.add_lit];exact h3 _ _ (dt _ _ _ _ _ hv))
     ⟨b2,o2,none⟩ ys.length c2 news (by rw [db];exact vn) hnews (by omega) (by omega) (growslice_fits (by omega) hbound')
    exact grow _ news ((es.drop off).take (len * esz)) 0 (len + ys.length) cap _ ((h2.drop off).take _) Ay (by simp only [maxLen];omega) rfl hr fun dC a b=>J7 (by omega) dC a b
theorem AH (hs:St A M L w H ev ea O) {t ty e:TypeId} {i:TypeInfo} {zv:Value} {esz bytes:Nat} (ht:P.underlying t=some (.slice e)) (hi:P.info? e=some i) (hz:i.zero=some zv) (db:i.size=esz) (sq:i.bytes=bytes) (h0:0 < esz) (qQ:0 < bytes)
 {z:AV} (GR:ofValue zv=some z) (pH:z.val=true) (gC:z.cells.length=esz) (Ct:∀ y∈z.cells,∀ own xs,y=.ap own xs→own=0) {u v:Value} {s x:AV} {K:AV→List aa→Prop} (h:cS esz bytes z s x H K) (hu:aT M L u s) (hv:aT M L v x) :
 ∃ r y L' w' H' O',(Builtin.append_ #[t,t] ty #[u,v]).run P w=.ok r w'∧aT M L' r y∧(∀ own xs,y=.ap own xs→own=0)∧K y H'∧St A M L' w' H' ev ea O'∧Ext A M w M w'∧L <+: L':=by
 rw [CB] at h
 exact ra (ty:=ty) hs ht hi hz db sq h0 qQ GR pH gC Ct (fun id _ _ _ _ bm=>A.kZ bm) h hu hv
theorem AI {lo:Nat} (uN:∀ id,lo≤id→A.top id=none) (hs:St A M L w H ev ea O) {t ty e:TypeId} {i:TypeInfo} {zv:Value} {esz bytes:Nat} (ht:P.underlying t=some (.slice e)) (hi:P.info? e=some i) (hz:i.zero=some zv) (db:i.size=esz) (sq:i.bytes=bytes) (h0:0 < esz) (qQ:0 < bytes)
 {z:AV} (GR:ofValue zv=some z) (pH:z.val=true) (gC:z.cells.length=esz) (Ct:∀ y∈z.cells,∀ own xs,y=.ap own xs→own=0) {u v:Value} {s x:AV} {K:AV→List aa→Prop} (h:fp lo esz bytes z s x H K) (hu:aT M L u s) (hv:aT M L v x) :
 ∃ r y L' w' H' O',(Builtin.append_ #[t,t] ty #[u,v]).run P w=.ok r w'∧aT M L' r y∧(∀ own xs,y=.ap own xs→own=0)∧K y H'∧St A M L' w' H' ev ea O'∧Ext A M w M w'∧L <+: L':=by
 refine ra (ty:=ty) hs ht hi hz db sq h0 qQ GR pH gC Ct (fun id off len cap e bm=>?_) h.2 hu hv
 have:A.iH H.length id=H.length:=by unfold Perm.iH;rw [uN id (h.1 _ _ _ _ e)]
 rw [this];exact oN _
theorem CD (hs:St A M L w H ev ea O) {t e:TypeId} {i:TypeInfo} {zv:Value} {esz:Nat} (ht:P.underlying t=some (.slice e)) (hi:P.info? e=some i) (hz:i.zero=some zv) (h0:0 < esz)
 {z:AV} (GR:ofValue zv=some z) (pH:z.val=true) (gC:z.cells.length=esz) {v:Value} {x:AV} {K:List aa→Prop} (h:jb esz z x H K) (hv:aT M L v x) (ty:TypeId) :
 ∃ w' H' O',(Builtin.clear_ #[t] ty #[v]).run P w=.ok (.tuple #[]) w'∧K H'∧St A M L w' H' ev ea O'∧Ext A M w M w':=by
 unfold jb at h
 split at h <;> try exact h.elim
 rename_i id off len cap
 split at h <;> try exact h.elim
 rename_i es bm
 obtain ⟨uO,k8,mj,hK⟩:=h
 cases hv with
 | aW b _ _ _ _ hl hc=>
 have Cm:=(cL (M:=M) (L:=L) GR).bP.gA (pZ pH)
 have vj:zv.cells.size=esz:=by have:=Cm.length;rw [jM,gC] at this;simpa using this
 have Kq:aN M L (Builtin.zeroCells zv.cells len).toList (cP z len):=by
  have:=kg (M:=M) (L:=L) zv.cells esz len vj h0 (bP z) Cm
  rw [Builtin.zeroCells,vj]
  rw [vj] at this
  exact this
 obtain ⟨cs,e',h1,h2,h3⟩:=hs.obj id _ b bm hl
 have jr:=h2.length
 have vi:(cP z len).length=len * esz:=by
  unfold cP
  rw [cM _ esz (fun y hy=>by rw [aa4 hy,jM];exact gC),acj]
 have qX:=Kq.length
 by_cases Co:len=0
 ·subst Co
  have e0:cP z 0=[]:=rfl
  rw [e0] at hK
  simp only [List.map_nil,lg] at hK
  have es':H.set id (.cells es)=H:=by
   obtain ⟨lM,e1⟩:=aaz.1 bm
   rw [← e1];simp
  rw [es'] at hK
  refine ⟨w,H,O,?_,hK,hs,Ext.refl A M w⟩
  simp [Builtin.clear_,run_underlying ht]
 ·have bS:=run_storeCells_at P b off e' (Builtin.zeroCells zv.cells len).toList 0 cs w h1 (by simp at jr ⊢;simp at qX;omega) (Kq.gX k8)
  obtain ⟨O',g1,g2⟩:=hs.Km (off:=off) bm hl h1 h2 Kq (by omega) mj
  refine ⟨_,_,O',?_,hK,g1,g2⟩
  have mC:(storeCells ⟨b,off,none⟩ (Builtin.zeroCells zv.cells len).toList).run P w=.ok () (w.setRow b (ah cs.toList off (Builtin.zeroCells zv.cells len).toList).toArray):=by simpa [ah] using bS
  have hzero:(zeroValue e).run P w=.ok zv w:=by simp [zeroValue,typeInfo,hi,hz]
  have nE:∃ m,len=m + 1:=⟨len - 1,by omega⟩
  obtain ⟨m,rfl⟩:=nE
  simp [Builtin.clear_,run_underlying ht,hzero,mC]
end
end Go.aI
end
section
namespace Go.aI
open Go
def Perm.entry (A:Perm) (loose:Bool) (n:Nat):Prop:=(∀ id,id < n→∃ m,m≤n∧A.top id=some m)∧∀ id,n≤id→A.top id=if loose=true then none else some (id + 1)
def lh (loose:Bool) (P:Program) (f:FuncId) (args:List AV) (H:List aa) (R:AV→List aa→Prop):Prop:=
 ∀ A M L w (vs:Array Value) O,A.entry loose H.length→vs.size=args.length→St A M L w H (fun t=>vs.getD t undef) (fun t=>args.getD t .any) O→
  ((callFunc f vs).run P w=.ok (.enter f vs) w∧Calls P f vs w fun e w'=>∃ v r H' M' L' O',e=.returned v∧R r H'∧St A M' L' w' H' (fJ (fun _=>undef) 0 v) (fJ (fun _=>.any) 0 r) O'∧Ext A M w M' w'∧L <+: L')∨
  (∃ v w' r H' M' L' O',(callFunc f vs).run P w=.ok (.value v) w'∧R r H'∧St A M' L' w' H' (fJ (fun _=>undef) 0 v) (fJ (fun _=>.any) 0 r) O'∧Ext A M w M' w'∧L <+: L')
def aw (P:Program) (f:FuncId) (args:List AV) (H:List aa) (R:AV→List aa→Prop):Prop:=lh false P f args H R
def jc (P:Program) (f:FuncId) (args:List AV) (H:List aa) (R:AV→List aa→Prop):Prop:=lh true P f args H R
theorem lh.mono {b:Bool} {P:Program} {f:FuncId} {args:List AV} {H:List aa} {R R':AV→List aa→Prop} (h:lh b P f args H R) (hr:∀ r H',R r H'→R' r H'):lh b P f args H R':=by
 intro A M L w vs O hA hs bS
 rcases h A M L w vs O hA hs bS with ⟨h1,h2⟩ | ⟨v,w',r,H',M',L',O',h1,h2,h3⟩
 ·exact .inl ⟨h1,h2.mono fun e w' ⟨v,r,H',M',L',O',h1,h2,h3⟩=>⟨v,r,H',M',L',O',h1,hr _ _ h2,h3⟩⟩
 ·exact .inr ⟨v,w',r,H',M',L',O',h1,hr _ _ h2,h3⟩
theorem aw.mono {P:Program} {f:FuncId} {args:List AV} {H:List aa} {R R':AV→List aa→Prop} (h:aw P f args H R) (hr:∀ r H',R r H'→R' r H'):aw P f args H R':=lh.mono h hr
theorem jc.mono {P:Program} {f:FuncId} {args:List AV} {H:List aa} {R R':AV→List aa→Prop} (h:jc P f args H R) (hr:∀ r H',R r H'→R' r H'):jc P f args H R':=lh.mono h hr
theorem aw.body {P:Program} {f:FuncId} {args:List AV} {H:List aa} {R:AV→List aa→Prop} (h:aw P f args H R) (he:∀ (as:Array Value) (w:World),(callFunc f as).run P w=.ok (.enter f as) w)
 {A:Perm} {M:Mem} {L:List Nat} {w:World} {vs:Array Value} {O:Pos→Option Nat} (hA:A.entry false H.length) (hs:vs.size=args.length) (bS:St A M L w H (fun t=>vs.getD t undef) (fun t=>args.getD t .any) O) :
 Calls P f vs w fun e w'=>∃ v r H' M' L' O',e=.returned v∧R r H'∧St A M' L' w' H' (fJ (fun _=>undef) 0 v) (fJ (fun _=>.any) 0 r) O'∧Ext A M w M' w'∧L <+: L':=by
 rcases h A M L w vs O hA hs bS with ⟨h1,h2⟩ | ⟨v,w',r,H',M',L',O',h1,h2,h3⟩
 ·exact h2
 ·rw [he] at h1;cases h1
structure Px where
 prog:Program
 lo:Option Nat
instance:Coe Program Px:=⟨fun P=>⟨P,none⟩⟩
def dD (P:Px) (f:FuncId) (args:List AV) (H:List aa) (R:AV→List aa→Prop):Prop:=
 match P.lo with
 | none=>aw P.prog f args H R
 | some l=>aw P.prog f args H R∨(l≤H.length∧jc P.prog f args H R)
theorem dD.of {P:Px} {f:FuncId} {args:List AV} {H:List aa} {R:AV→List aa→Prop} (h:aw P.prog f args H R):dD P f args H R:=by
 unfold dD;split
 ·exact h
 ·exact .inl h
theorem dD.ofL {P:Program} {l:Nat} {f:FuncId} {args:List AV} {H:List aa} {R:AV→List aa→Prop} (hl:l≤H.length) (h:jc P f args H R):dD ⟨P,some l⟩ f args H R:=.inr ⟨hl,h⟩
theorem dD.mono {P:Px} {f:FuncId} {args:List AV} {H:List aa} {R R':AV→List aa→Prop} (h:dD P f args H R) (hr:∀ r H',R r H'→R' r H'):dD P f args H R':=by
 unfold dD at *;split at h
 ·exact h.mono hr
 ·rcases h with h | ⟨h1,h2⟩
  ·exact .inl (h.mono hr)
  ·exact .inr ⟨h1,h2.mono hr⟩
def fF (loose:Bool) (P:Program) (id:Nat) (args:List AV) (H:List aa) (R:AV→List aa→Prop):Prop:=
 ∀ A M L w (vs:Array Value) O b,A.entry loose H.length→vs.size=args.length→L[id]?=some b→St A M L w H (fun t=>vs.getD t undef) (fun t=>args.getD t .any) O→
  ∃ fn tmps as bd,(Instr.yield b vs).run P w=.ok (.round b fn tmps as bd) w∧RoundIn Fence.wide 0 P b fn tmps as bd w fun e w'=>
   ∃ v r H' M' L' O',e=.returned v∧R r H'∧St A M' L' w' H' (fJ (fun _=>undef) 0 v) (fJ (fun _=>.any) 0 r) O'∧Ext A M w M' w'∧L <+: L'
theorem fF.mono {b:Bool} {P:Program} {id:Nat} {args:List AV} {H:List aa} {R R':AV→List aa→Prop} (h:fF b P id args H R) (hr:∀ r H',R r H'→R' r H'):fF b P id args H R':=by
 intro A M L w vs O c hA hs hc bS
 obtain ⟨fn,tmps,as,bd,h1,h2⟩:=h A M L w vs O c hA hs hc bS
 exact ⟨fn,tmps,as,bd,h1,h2.mono fun e w' ⟨v,r,H',M',L',O',h1,h2,h3⟩=>⟨v,r,H',M',L',O',h1,hr _ _ h2,h3⟩⟩
def ko (P:Program) (id:Nat) (args:List AV) (H:List aa) (R:AV→List aa→Prop):Prop:=fF false P id args H R
def N4 (P:Program) (id:Nat) (args:List AV) (H:List aa) (R:AV→List aa→Prop):Prop:=fF true P id args H R
def mE (P:Px) (id:Nat) (args:List AV) (H:List aa) (R:AV→List aa→Prop):Prop:=
 match P.lo with
 | none=>ko P.prog id args H R
 | some l=>ko P.prog id args H R∨(l≤H.length∧N4 P.prog id args H R)
theorem mE.mono {P:Px} {id:Nat} {args:List AV} {H:List aa} {R R':AV→List aa→Prop} (h:mE P id args H R) (hr:∀ r H',R r H'→R' r H'):mE P id args H R':=by
 unfold mE at *;split at h
 ·exact fF.mono h hr
 ·rcases h with h | ⟨h1,h2⟩
  ·exact .inl (fF.mono h hr)
  ·exact .inr ⟨h1,fF.mono h2 hr⟩
def yY:List AV→List AV→Prop
 | [],[]=>True
 | x::xs,y::ys=>x.le y∧yY xs ys
 | _,_=>False
def aK (env:Env) (pass:Option Nat):Nat→List IX→List AV
 | _,[]=>[]
 | j,.t s::xs=>(if pass=some j then get env s else (get env s).ab)::aK env pass (j + 1) xs
 | j,.c v::xs=>v.ab::aK env pass (j + 1) xs
def bh (args:List IX) (pass:Option Nat):Option Nat:=
 match pass with
 | some j=>match args[j]? with
   | some (.t s)=>some s
   | _=>none
 | none=>none
def cG (env:Env) (s:Option Nat):Env:=match s with | some d=>(d,(get env d).ab)::env | none=>env
def pK (P:Px) (f:AV) (args:List IX) (pass:Option Nat) (env:Env) (H:List aa) (K:AV→Env→List aa→Prop):Prop:=
 match f with
 | .fn (.func g) first cap=>∃ bU,yY (first.map AV.ab++aK env pass 0 args++cap.map AV.ab) bU∧dD P g bU H (fun r H'=>K r (cG env (bh args pass)) H')
 | .nN id=>∃ bU,yY (aK env pass 0 args) bU∧mE P id bU H (fun r H'=>K r (cG env (bh args pass)) H')
 | _=>False
def aL (kd:Nat) (x:AV):Prop:=
 match kd,x with
 | 0,.str _=>True
 | 1,.ag=>True
 | 1,.ap _ _=>True
 | 1,.aW _ _ _ _=>True
 | 1,.nL=>True
 | 2,.ju=>True
 | 2,.map _=>True
 | _,_=>False
def gE (env:Env) (x:Option IX):Option AV:=x.map (aq env)
def bB (P:Px) (o:cb) (dst:Option Nat) (env:Env) (H:List aa) (K:Env→List aa→Prop):Prop:=
 match o with
 | .set x take=>match dst with | some d=>K (uL env d x take) H | none=>K env H
 | .pick c a b=>fe (aq env c) fun q=>(q=true→K (put dst (aq env a).ab env) H)∧(q=false→K (put dst (aq env b).ab env) H)
 | .bin op x y=>dh op (aq env x) (aq env y) fun z=>K (put dst z env) H
 | .shift op x y=>dX op (aq env x) (aq env y) fun z=>K (put dst z env) H
 | .iR neq x y=>c9 neq (aq env x) (aq env y) fun z=>K (put dst z env) H
 | .jI kd neq x=>dk kd neq (aq env x) fun z=>K (put dst z env) H
 | .un op x=>As op (aq env x) fun z=>K (put dst z env) H
 | .box x=>(aq env x).val=true∧aj (H.length + 1) ((aq env x).cells.map AV.ab)=true∧K (put dst (.ptr H.length 0) env) (H++[.cells ((aq env x).cells.map AV.ab)])
 | .ms x=>(aq env x).val=true∧K (put dst (.ai (aq env x)) env) H
 | .sx m x=>(aq env x).val=true∧(aq env x).cells.length=m∧(aq env x).cells.all AV.one=true∧K (put dst (.ai (aq env x)) env) H
 | .alloc z=>aj (H.length + 1) (z.cells.map AV.ab)=true∧K (put dst (.ptr H.length 0) env) (H++[.cells (z.cells.map AV.ab)])
 | .build z ps=>cw z.cells (ps.map fun q=>(q.1,q.2.1,aq env q.2.2)) fun v=>K (put dst v env) H
 | .buildSlice own esz z len ps=>bu (List.replicate len (aV z)) esz (ps.map fun q=>(q.1,aq env q.2)) fun xs=>K (put dst (.ap own xs) env) H
 | .load sz a=>aU sz (aq env a) H fun z=>K (put dst z env) H
 | .tQ sz esz a=>aU sz (aq env a) H fun z=>fL esz z H fun y H'=>K (put dst y env) H'
 | .eK a=>match dst,aq env a with
   | some d,.ptr id off=>match H[id]? with
     | some (.cells es)=>off < es.length∧K ((d,es.getD off .any)::env) (H.set id (.cells (es.set off (es.getD off .any).ab)))
     | _=>False
   | _,_=>False
 | .store m a x=>iT m (aq env a) (aq env x) H fun H'=>K env H'
 | .nQ m a x=>match P.lo with | some l=>hZ l m (aq env a) (aq env x) H fun H'=>K env H' | none=>False
 | .fA a s=>dY (aq env a) (get env s) H fun H'=>K ((s,(get env s).ab)::env) H'
 | .nilCheck x=>bZ (aq env x) fun z=>K (put dst z env) H
 | .fieldAddr off sz x=>al off sz (aq env x) fun z=>K (put dst z env) H
 | .field off sz x=>ff off sz (aq env x) fun z=>K (put dst z env) H
 | .indexAddr esz x i=>(∀ own xs,aq env x=.ap own xs→∀ z∈xs,z.cells.length=esz)∧ax esz (aq env x) (aq env i) fun z=>K (put dst z env) H
 | .di x i=>bN (aq env x) (aq env i) fun z=>K (put dst z env) H
 | .dV n x i=>bY n (aq env x) (aq env i) fun z=>K (put dst z env) H
 | .pY esz x lo hi mx=>(∀ own xs,aq env x=.ap own xs→∀ z∈xs,z.cells.length=esz)∧fm esz (aq env x) (gE env lo) (gE env hi) (gE env mx) fun z=>z=.ap esz []∧K (put dst .nL env) H
 | .slice esz x lo hi mx=>bA esz (aq env x) (gE env lo) (gE env hi) (gE env mx) fun z=>K (put dst z env) H
 | .copy esz d s=>kj esz (aq env d) (aq env s) H fun z H'=>K (put dst z env) H'
 | .dW x lo hi=>cn (aq env x) (gE env lo) (gE env hi) fun z=>K (put dst z env) H
 | .len kd x=>aL kd (aq env x)∧eU (aq env x) H fun z=>K (put dst z env) H
 | .append esz bytes s x=>bE esz bytes (aq env s) (aq env x) fun zs=>K (put dst (.ap esz zs) (cG env s.slot)) H
 | .tS esz bytes z n=>fj esz bytes z (aq env n) H fun v H'=>K (put dst v env) H'
 | .nR esz bytes n=>jy esz bytes (aq env n) fun v=>K (put dst v env) H
 | .nS=>K (put dst (.map H.length) env) (H++[.map []])
 | .lookup kd z m k ok=>cu kd z (aq env m) (aq env k) ok H fun v=>K (put dst v env) H
 | .k7 kd m k x=>fD kd (aq env m) (aq env k) (aq env x) H fun H'=>K env H'
 | .fn f first cap=>K (put dst (.fn f (first.map fun x=>(aq env x).ab) (cap.map fun x=>(aq env x).ab)) env) H
 | .extract x i=>bK (aq env x) i fun z=>K (put dst z env) H
 | .call f args pass=>pK P (aq env f) args pass env H fun r aH H'=>K (put dst r aH) H'
 | .eX k x=>cD k (aq env x) fun z=>K (put dst z env) H
 | .gY x=>fU (aq env x) fun z=>K (put dst z env) H
 | .bytesOf x=>fo 1 (aq env x) fun z=>K (put dst z env) H
 | .strOf x=>kh (aq env x) fun z=>K (put dst z env) H
 | .mx big a b=>ya big (aq env a) (aq env b) fun z=>K (put dst z env) H
 | .Aq esz x=>fL esz (aq env x) H fun z H'=>K (put dst z env) H'
 | .Cg esz z len ps=>bu (List.replicate len (aV z)) esz (ps.map fun q=>(q.1,aq env q.2)) fun xs=>tZ xs H fun v H'=>K (put dst v env) H'
 | .jK esz bytes z s x=>cS esz bytes z (aq env s) (aq env x) H fun v H'=>K (put dst v env) H'
 | .jL esz bytes z s x=>match P.lo with | some l=>fp l esz bytes z (aq env s) (aq env x) H fun v H'=>K (put dst v env) H' | none=>False
 | .nT esz z x=>jb esz z (aq env x) H fun H'=>K (put dst (.tuple []) env) H'
 | .never=>False
def cp (P:Program) (e:TypeId):Option (Nat×AV):=
 match dL P e,fK P e with
 | some esz,some z=>if 0 < esz∧z.cells.length=esz∧z.val=true then some (esz,z) else none
 | _,_=>none
def wg (P:Program) (e:TypeId):Option Nat:=(P.info? e).map (·.bytes)
def wh (z:AV):Bool:=z.cells.all fun y=>match y with | .ap own _=>own == 0 | _=>true
def kO:Option Operand→Option (Option IX)
 | none=>some none
 | some x=>(aQ x).map some
def Kr (x y:Operand):Bool:=match x,y with | .tmp a,.tmp b=>a == b | .const (.int .i64 a),.const (.int .i64 b)=>a == b | _,_=>false
def cz (P:Program) (o:Oper) (fl:Nat):Option cb:=
 match o.op with
 | .move x | .assign x=>(aQ x).map fun i=>.set i (fl == 1)
 | .pick c a b=>match aQ c,aQ a,aQ b with
   | some c,some a,some b=>some (.pick c a b)
   | _,_,_=>none
 | .binOp op t x y _=>match aQ x,aQ y with
   | some i,some j=>match op with
     | .shl | .shr=>some (.shift op i j)
     | .eql | .neq=>match P.underlying t with
       | some .bool=>some (.iR (op matches .neq) i j)
       | some (.int _) | some .string=>some (.bin op i j)
       | some (.slice _)=>match y with | .const (.slice none 0 0)=>some (.jI 0 (op matches .neq) i) | _=>none
       | some (.pointer _)=>match y with | .const (.pointer none)=>some (.jI 1 (op matches .neq) i) | _=>none
       | some (.map _ _)=>match y with | .const (.map none)=>some (.jI 2 (op matches .neq) i) | _=>none
       | some (.func _ _ _)=>match y with | .const .nilFunc=>some (.jI 3 (op matches .neq) i) | _=>none
       | _=>none
     | _=>some (.bin op i j)
   | _,_=>none
 | .unOp op _ x=>(aQ x).map fun i=>.un op i
 | .box _ x=>(aQ x).map fun i=>if fl=1 then .ms i else .box i
 | .alloc e=>match fK P e with
   | some z=>if z.val=true then some (.alloc z) else none
   | none=>none
 | .build t ps=>match ER P t with
   | some (z,places)=>match fC places ps.toList with
     | some qs=>if z.val=true then some (.build z qs) else none
     | none=>none
   | none=>none
 | .buildSlice t len ps=>match P.underlying t with
   | some (.slice e)=>match cp P e,ke ps.toList with
     | some (esz,z),some qs=>if len * esz≤16777216 then some (if fl=2 then .Cg esz z len qs else .buildSlice (if fl=1 then esz else 0) esz z len qs) else none
     | _,_=>none
   | _=>none
 | .load t a=>match JU P t,aQ a with
   | some sz,some i=>if fl=1 then (if sz=none then some (.eK i) else none) else if 3000 < fl then some (.tQ sz (fl - 3000) i) else some (.load sz i)
   | _,_=>none
 | .store t a x=>match dL P t,aQ a,aQ x with
   | some m,some i,some j=>if fl=1 then (match j with | .t s=>if m=1 then some (.fA i s) else none | _=>none) else if fl=2 then some (.nQ m i j) else some (.store m i j)
   | _,_,_=>none
 | .nilCheck x=>(aQ x).map .nilCheck
 | .fieldAddr s x f=>match sA P s f,aQ x with
   | some (off,sz),some i=>some (.fieldAddr off sz i)
   | _,_=>none
 | .field s x f=>match sA P s f,aQ x with
   | some (off,sz),some i=>some (.field off sz i)
   | _,_=>none
 | .indexAddr t x i=>match P.underlying t,aQ x,aQ i with
   | some (.slice e),some j,some k=>(dL P e).map fun esz=>.indexAddr esz j k
   | _,_,_=>none
 | .index t x i=>match P.underlying t,aQ x,aQ i with
   | some .string,some j,some k=>some (.di j k)
   | some (.array n e),some j,some k=>if JU P e=some none then some (.dV n j k) else none
   | _,_,_=>none
 | .slice t x lo hi mx=>match P.underlying t,aQ x,kO lo,kO hi,kO mx with
   | some (.slice e),some i,some l,some h,some m=>match dL P e with
     | some esz=>if 0 < esz then some (if fl=4 then .pY esz i l h m else .slice esz i l h m) else none
     | none=>none
   | some .string,some i,some l,some h,some none=>some (.dW i l h)
   | _,_,_,_,_=>none
 | .makeSlice t l c=>match P.underlying t,aQ c with
   | some (.slice e),some k=>match cp P e,wg P e with
     | some (esz,z),some bytes=>if 0 < bytes∧wh z=true then (match l with
        | .const (.int .i64 0)=>some (.nR esz bytes k)
        | _=>if Kr l c=true then some (.tS esz bytes z k) else none) else none
     | _,_=>none
   | _,_=>none
 | .makeMap _ none=>some .nS
 | .lookup t m k ok=>match P.underlying t,aQ m,aQ k with
   | some (.map kt et),some i,some j=>match oR P kt,fK P et with
     | some kd,some z=>some (.lookup kd z i j ok)
     | _,_=>none
   | _,_,_=>none
 | .mapUpdate t m k x=>match P.underlying t,aQ m,aQ k,aQ x with
   | some (.map kt _),some i,some j,some y=>(oR P kt).map fun kd=>.k7 kd i j y
   | _,_,_,_=>none
 | .makeFunc f first cap=>match fQ first.toList,fQ cap.toList with
   | some i,some j=>some (.fn f i j)
   | _,_=>none
 | .extract x i=>(aQ x).map fun j=>.extract j i
 | .convert src dst x=>match P.underlying src,P.underlying dst,aQ x with
   | some (.int _),some (.int k),some i=>some (.eX k i)
   | some .string,some .string,some i=>some (.gY i)
   | some .string,some (.slice e),some i=>match P.underlying e with
     | some (.int .u8)=>some (.bytesOf i)
     | _=>none
   | some (.slice e),some .string,some i=>match P.underlying e with
     | some (.int .u8)=>some (.strOf i)
     | _=>none
   | _,_,_=>none
 | .call c=>match c.callee with
   | .value f=>match aQ f,fQ c.args.toList with
     | some i,some js=>some (.call i js (if fl=0 then none else some (fl - 1)))
     | _,_=>none
   | .builtin .len=>match c.args.toList,c.argTypes.toList with
     | [x],[t]=>match P.underlying t,aQ x with
       | some .string,some i=>some (.len 0 i)
       | some (.slice _),some i=>some (.len 1 i)
       | some (.map _ _),some i=>some (.len 2 i)
       | _,_=>none
     | _,_=>none
   | .builtin .append=>match c.args.toList,c.argTypes.toList with
     | [s,x],[t,t']=>if t=t' then (match P.underlying t,aQ s,aQ x with
        | some (.slice e),some i,some j=>match cp P e,wg P e with
          | some (esz,z),some bytes=>if 0 < bytes then (if fl=2 then (if wh z=true then some (.jK esz bytes z i j) else none) else if fl=3 then (if wh z=true then some (.jL esz bytes z i j) else none) else some (.append esz bytes i j)) else none
          | _,_=>none
        | _,_,_=>none) else none
     | _,_=>none
   | .builtin .max=>match c.args.toList with
     | [x,y]=>match aQ x,aQ y with
       | some i,some j=>some (.mx true i j)
       | _,_=>none
     | _=>none
   | .builtin .min=>match c.args.toList with
     | [x,y]=>match aQ x,aQ y with
       | some i,some j=>some (.mx false i j)
       | _,_=>none
     | _=>none
   | _=>none
 | _=>none
def rb (P:Program) (o:Oper):cb:=
 match o.op with
 | .call c=>match c.callee with
   | .builtin .copy=>match c.args.toList,c.argTypes.toList with
     | [s,x],[t,_]=>match P.underlying t,aQ s,aQ x with
        | some (.slice e),some i,some j=>match dL P e with
          | some esz=>.copy esz i j
          | none=>.never
        | _,_,_=>.never
     | _,_=>.never
   | .builtin .clear=>match c.args.toList,c.argTypes.toList with
     | [s],[t]=>match P.underlying t,aQ s with
        | some (.slice e),some i=>match cp P e with
          | some (esz,z)=>.nT esz z i
          | none=>.never
        | _,_=>.never
     | _,_=>.never
   | _=>.never
 | _=>.never
def nZ (P:Program) (o:Oper):cb:=
 match o.op with
 | .move x | .assign x=>match aQ x,P.underlying o.type with
   | some i,some (.slice e)=>match dL P e with
     | some esz=>.Aq esz i
     | none=>.never
   | _,_=>.never
 | _=>.never
def lN (esz:Nat) (o:Oper):cb:=
 match o.op with
 | .move x | .assign x=>match aQ x with
   | some i=>.Aq esz i
   | none=>.never
 | _=>.never
def N5 (o:Oper):Bool:=match o.op with | .load _ _=>false | _=>true
def CE (P:Program) (o:Oper) (fl:Nat):cb:=if fl=3000 then nZ P o else if 3000 < fl∧N5 o=true then lN (fl - 3000) o else (cz P o fl).getD (rb P o)
end Go.aI
end
section
namespace Go.aI
open Go
section
variable {ro:Option Nat} {P:Program} {lo:Option Nat} {A:Perm} {n:Nat} {M:Mem} {L:List Nat} {w:World} {H:List aa} {env:Env} {O:Pos→Option Nat} {a:Act} {Q:Exit→Act→World→Prop} {K:Env→List aa→Prop}
theorem bR {o:Oper} (hf:Fr A n M L w H env O a) (hd:∀ d,o.dst=some d→d < n)
 (h:∃ r z,(execOp a.eval o).run P w=.ok (.value r) w∧aT M L r z∧K (put o.dst z env) H∧∀ own xs,z=.ap own xs→own=0):o.wpIn (wf ro) 0 P a w (nD A n M L w K) Q:=by
 obtain ⟨r,z,h1,h2,h3,h4⟩:=h
 exact wp_pure hf hd h1 h2 h4 h3
theorem a8 {s:Sem Value} {r:Value} {w':World} (h:s.run P w=.ok r w'):(do pure (Next.value (← s)):Sem Next).run P w=.ok (.value r) w':=by
 simp only [Sem.run_bind,h,Result.andThen_ok,Sem.run_pure]
theorem rc {s:Sem Unit} {w':World} (h:s.run P w=.ok () w'):(do s;pure Next.skip:Sem Next).run P w=.ok .skip w':=by
 simp only [Sem.run_bind,h,Result.andThen_ok,Sem.run_pure]
theorem oV {o:Oper} (hf:Fr A n M L w H env O a) (hd:∀ d,o.dst=some d→d < n) {r:Value} {z:AV} {w':World} {M':Mem} {L':List Nat} {H':List aa} (bL:(execOp a.eval o).run P w=.ok (.value r) w')
 (hr:aT M' L' r z) (hz:∀ own xs,z=.ap own xs→own=0) (bS:St A M' L' w' H' (fun t=>a.tmps.getD t undef) (get env) O) (cF:Ext A M w M' w') (hL:L <+: L') (hK:K (put o.dst z env) H'):o.wpIn (wf ro) 0 P a w (nD A n M L w K) Q:=by
 obtain ⟨O',pC⟩:=(hf.mono bS cF).nO hd hr hz
 exact dc bL ⟨M',L',H',_,O',hK,pC,cF,hL⟩
theorem wi {o:Oper} {aH:Env} {O':Pos→Option Nat} (hf:Fr A n M L w H env O a) (hd:∀ d,o.dst=some d→d < n) {r:Value} {z:AV} {w':World} {M':Mem} {ob:Option Nat} (bL:(execOp a.eval o).run P w=.ok (.value r) w')
 (hr:aT M' L r z) (GL:bj M' w' r z ob) (bS:St A M' L w' H (fun t=>a.tmps.getD t undef) (get aH) O') (cF:Ext A M w M' w') (h1:∀ q b,ob=some b→O' q≠some b) (h2:∀ b,ob=some b→b∉L∧b < w'.heap.size∧A b) (hK:K (put o.dst z aH) H):o.wpIn (wf ro) 0 P a w (nD A n M L w K) Q:=by
 have pC:Fr A n M' L w' H aH O' a:=⟨bS,hf.size,hf.defers.ext cF⟩
 refine dc bL ?_
 cases gF:o.dst with
 | none=>rw [gF] at hK;exact ⟨M',L,H,_,O',hK,pC,cF,aau L⟩
 | some d=>
   rw [gF] at hK
   exact ⟨M',L,H,_,_,hK,pC.EN (hd d gF) hr ob GL (fun q b hb hq=>absurd hq (h1 q b hb)) h2,cF,aau L⟩
theorem yZ {o:Oper} {x:Operand} (ho:o.op=.move x∨o.op=.assign x) {i:IX} (hc:aQ x=some i) {take:Bool} (hf:Fr A n M L w H env O a) (hd:∀ d,o.dst=some d→d < n)
 (h:bB ⟨P,lo⟩ (.set i take) o.dst env H K):o.wpIn (wf ro) 0 P a w (nD A n M L w K) Q:=by
 have bL:(execOp a.eval o).run P w=.ok (.value (a.eval x)) w:=by
  rcases ho with ho | ho <;> simp [execOp,ho]
 have hr:=hf.eval hc
 simp only [bB] at h
 cases gF:o.dst with
 | none=>
   rw [gF] at h
   refine dc bL ⟨M,L,H,env,O,h,?_,Ext.refl A M w,aau L⟩
   rw [gF];exact hf
 | some d=>
   rw [gF] at h
   have Wu:=hd d gF
   have h:K (uL env d i take) H:=h
   unfold uL at h
   split at h
   ·rename_i s _
    -- the list moves
    cases x with
    | tmp t=>
      have hts:t=s:=by simpa [aQ] using hc
      subst hts
      have nX:=hf.st.nO t (v:=a.tmps.getD t undef) (x:=(get env t).ab) (hf.st.env t).ab (AV.bO _)
      have Wh:fJ (fun t=>a.tmps.getD t undef) t (a.tmps.getD t undef)=fun t=>a.tmps.getD t undef:=by funext t';simp only [fJ];split;rename_i e0;rw [e0];rfl
      rw [Wh] at nX
      have EG:Fr A n M L w H ((t,(get env t).ab)::env) (eE O (.t t) none) a:=⟨nX,hf.size,hf.defers⟩
      have ua:=EG.EN Wu (v:=a.tmps.getD t undef) (x:=get env t) (hf.st.env t) (O (.t t)) (hf.st.iL t) (fun p b hb hp=>by
       simp only [eE] at hp
       split at hp
       ·cases hp
       ·rename_i n';exact absurd (hf.st.cj _ _ b hp hb) n') (fun b hb=>⟨hf.st.cv _ b hb,hf.st.fy _ b hb,hf.st.Oa _ b hb⟩)
      rw [← gF] at ua
      exact dc bL ⟨M,L,H,_,_,h,ua,Ext.refl A M w,aau L⟩
    | const v=>simp only [aQ] at hc;obtain ⟨y,_,hy⟩:=tM.1 hc;cases hy
    | func f=>simp [aQ] at hc
    | global g=>simp [aQ] at hc
   ·have ua:=hf.EN Wu hr.ab none (bj.free (AV.bO _)) (fun p b e=>by cases e) (fun b e=>by cases e)
    rw [← gF] at ua
    exact dc bL ⟨M,L,H,_,_,h,ua,Ext.refl A M w,aau L⟩
theorem wj {o:Oper} {t:TypeId} {x:Operand} (ho:o.op=.load t x) (ht:JU P t=some none) {i:IX} (hc:aQ x=some i) (hf:Fr A n M L w H env O a) (hd:∀ d,o.dst=some d→d < n)
 (h:bB ⟨P,lo⟩ (.eK i) o.dst env H K):o.wpIn (wf ro) 0 P a w (nD A n M L w K) Q:=by
 have hr:=hf.eval hc
 simp only [bB] at h
 split at h <;> try exact h.elim
 rename_i d id off gF hx
 split at h <;> try exact h.elim
 rename_i es bm
 obtain ⟨pB,hK⟩:=h
 rw [hx] at hr
 generalize hu:a.eval x=u at hr
 cases hr with
 | ptr b _ _ hl=>
 obtain ⟨cs,e,h1,h2,h3⟩:=fB hf.st bm hl
 have hlen:=h2.length
 obtain ⟨r1,r2⟩:=eL (w:=w) (m:=0) ht
 have Av:off < cs.toList.length:=by omega
 have hcell:=h3 off cs.toList[off] (by simp)
 have fR:=h2.getD off
 have e0:cs.toList.getD off undef=cs.toList[off]:=by rw [oM,Nq Av];rfl
 rw [e0] at fR
 have bL:(execOp a.eval o).run P w=.ok (.value cs.toList[off]) w:=by
  simp only [execOp,ho,hu]
  exact a8 (by simp only [Instr.loadAt,Instr.sureAddr,loadVar,Sem.run_bind,Sem.run_pure,Result.andThen_ok,r1,aaT,if_false,run_load,hcell])
 have bS:=hf.st.Ij bm hl pB
 have EG:Fr A n M L w (H.set id (.cells (es.set off (es.getD off .any).ab))) env (eE O (.c id off) none) a:=⟨bS,hf.size,hf.defers⟩
 have GL:bj M w cs.toList[off] (es.getD off .any) (O (.c id off)):=by
  have h0:=hf.st.iI id off
  have e3:bQ L w id off=cs.toList[off]:=by unfold bQ;simp only [hl,hcell];rfl
  have e4:bC H id off=es.getD off .any:=by unfold bC;simp [bm]
  rwa [e3,e4] at h0
 have ua:=EG.EN (hd d gF) fR (O (.c id off)) GL (fun p b hb hp=>by
  simp only [eE] at hp
  split at hp
  ·cases hp
  ·rename_i n';exact absurd (hf.st.cj _ _ b hp hb) n') (fun b hb=>⟨hf.st.cv _ b hb,hf.st.fy _ b hb,hf.st.Oa _ b hb⟩)
 rw [← gF] at ua
 exact dc bL ⟨M,L,_,_,_,hK,ua,Ext.refl A M w,aau L⟩
theorem yj {o:Oper} {t:TypeId} {x y:Operand} (ho:o.op=.store t x y) (ht:dL P t=some 1) {i:IX} {s:Nat} (hc:aQ x=some i) (hy:aQ y=some (.t s)) (hf:Fr A n M L w H env O a)
 (gF:o.dst=none) (h:bB ⟨P,lo⟩ (.fA i s) o.dst env H K):o.wpIn (wf ro) 0 P a w (nD A n M L w K) Q:=by
 have hr:=hf.eval hc
 simp only [bB] at h
 have qR:y=.tmp s:=by
  cases y with
  | tmp t=>simp [aQ] at hy;rw [hy]
  | const v=>simp only [aQ] at hy;obtain ⟨z,_,hz⟩:=tM.1 hy;cases hz
  | func f=>simp [aQ] at hy
  | global g=>simp [aQ] at hy
 subst qR
 obtain ⟨w',H',O',h1,h2,h3,h4⟩:=Aw (P:=P) hf.st ht h hr s rfl rfl
 have bL:(execOp a.eval o).run P w=.ok .skip w':=by
  simp only [execOp,ho]
  exact rc h1
 have ua:Fr A n M L w' H' ((s,(get env s).ab)::env) O' (a.put o.dst undef):=by
  rw [gF];exact ⟨h3,hf.size,hf.defers.ext h4⟩
 exact mv bL ⟨M,L,H',_,O',h2,ua,h4,aau L⟩
theorem AJ {o:Oper} {t e:TypeId} {s x:Operand} (ho:o.op=.call { callee:=.builtin .append,args:=#[s,x],argTypes:=#[t,t] }) (ht:P.underlying t=some (.slice e)) {esz bytes:Nat} {z:AV} (hz:cp P e=some (esz,z)) (hb:wg P e=some bytes) (qQ:0 < bytes)
 {i j:IX} (hi:aQ s=some i) (hj:aQ x=some j) (hf:Fr A n M L w H env O a) (hd:∀ d,o.dst=some d→d < n)
 (h:bB ⟨P,lo⟩ (.append esz bytes i j) o.dst env H K):o.wpIn (wf ro) 0 P a w (nD A n M L w K) Q:=by
 simp only [bB] at h
 have uS:=hf.eval hi
 have Wv:=hf.eval hj
 unfold cp at hz
 split at hz <;> try cases hz
 rename_i esz' z' Ns mB
 split at hz <;> cases hz
 rename_i hcond
 obtain ⟨h0,gC,pH⟩:=hcond
 obtain ⟨inf,g9,db⟩:=tM.1 Ns
 obtain ⟨inf',n7,sq⟩:=tM.1 hb
 rw [g9] at n7;cases n7
 unfold fK at mB
 simp only [g9] at mB
 split at mB <;> try cases mB
 rename_i zv sC
 have vj:zv.cells.size=esz:=by have:=((cL (M:=M) (L:=L) mB).gA pH).length;rw [gC] at this;simpa using this
 have NW:match i.slot with | some d=>(fun t=>a.tmps.getD t undef) d=a.eval s∧get env d=aq env i | none=>aq env i=.ag:=by
  cases s with
  | tmp t=>simp [aQ] at hi;subst hi;exact ⟨rfl,rfl⟩
  | const v=>
    simp only [aQ] at hi
    obtain ⟨y,hy,rfl⟩:=tM.1 hi
    simp only [IX.slot,aq]
    have h2:=h
    simp only [aq,bE] at h2
    split at h2 <;> try exact h2.elim
    rename_i fS _
    unfold ns at fS
    split at fS
    ·rfl
    ·-- a constant is never an owned list
     exfalso
     unfold ofValue at hy
     split at hy
     ·obtain ⟨_,_,hq⟩:=tM.1 hy;cases hq
     ·unfold We at hy;split at hy <;> cases hy
    ·cases fS
  | func f=>
    simp [aQ] at hi;subst hi
    simp only [aq,bE,ns] at h
  | global g=>simp [aQ] at hi
 obtain ⟨r,w',M',O',ob,zs,g1,g2,g3,g4,g5,g6,g7,g8⟩:=Cr (P:=P) (ty:=o.type) hf.st ht g9 sC db sq vj h0 qQ h i.slot uS NW Wv
 have bL:(execOp a.eval o).run P w=.ok (.value r) w':=by
  simp only [execOp,ho,resolve,invoke,builtin,Sem.run_bind,Sem.run_pure,Result.andThen_ok,ace,List.map_cons,List.map_nil,g1]
 have EM:k9 (get env) i.slot=get (cG env i.slot):=by
  cases i.slot with
  | none=>rfl
  | some d=>rfl
 rw [EM] at g5
 exact wi hf hd bL g3 g4 g5 g6 g7 g8 g2
theorem yl {o:Oper} {t e:TypeId} {s x:Operand} (ho:o.op=.call { callee:=.builtin .append,args:=#[s,x],argTypes:=#[t,t] }) (ht:P.underlying t=some (.slice e)) {esz bytes:Nat} {z:AV} (hz:cp P e=some (esz,z)) (hb:wg P e=some bytes) (qQ:0 < bytes) (AK:wh z=true)
 {i j:IX} (hi:aQ s=some i) (hj:aQ x=some j) (hf:Fr A n M L w H env O a) (hd:∀ d,o.dst=some d→d < n)
 (h:bB ⟨P,lo⟩ (.jK esz bytes z i j) o.dst env H K):o.wpIn (wf ro) 0 P a w (nD A n M L w K) Q:=by
 simp only [bB] at h
 have uS:=hf.eval hi
 have Wv:=hf.eval hj
 unfold cp at hz
 split at hz <;> try cases hz
 rename_i esz' z' Ns mB
 split at hz <;> cases hz
 rename_i hcond
 obtain ⟨h0,gC,pH⟩:=hcond
 obtain ⟨inf,g9,db⟩:=tM.1 Ns
 obtain ⟨inf',n7,sq⟩:=tM.1 hb
 rw [g9] at n7;cases n7
 unfold fK at mB
 simp only [g9] at mB
 split at mB <;> try cases mB
 rename_i zv sC
 have Ct:∀ y∈z.cells,∀ own xs,y=.ap own xs→own=0:=by
  intro y hy own xs e
  have:=aaJ.1 AK y hy
  subst e
  simpa using this
 obtain ⟨r,y,L',w',H',O',g1,g2,g3,g4,g5,g6,g7⟩:=AH (P:=P) (ty:=o.type) hf.st ht g9 sC db sq h0 qQ mB pH gC Ct h uS Wv
 have bL:(execOp a.eval o).run P w=.ok (.value r) w':=by
  simp only [execOp,ho,resolve,invoke,builtin,Sem.run_bind,Sem.run_pure,Result.andThen_ok,ace,List.map_cons,List.map_nil,g1]
 have EG:Fr A n M L' w' H' env O' a:=⟨g5,hf.size,hf.defers.ext g6⟩
 obtain ⟨O'',pC⟩:=EG.nO hd g2 g3
 exact dc bL ⟨M,L',H',_,O'',g4,pC,g6,g7⟩
theorem ym {o:Oper} {t e:TypeId} {s x:Operand} (ho:o.op=.call { callee:=.builtin .append,args:=#[s,x],argTypes:=#[t,t] }) (ht:P.underlying t=some (.slice e)) {esz bytes:Nat} {z:AV} (hz:cp P e=some (esz,z)) (hb:wg P e=some bytes) (qQ:0 < bytes) (AK:wh z=true)
 {i j:IX} (hi:aQ s=some i) (hj:aQ x=some j) (hf:Fr A n M L w H env O a) (hd:∀ d,o.dst=some d→d < n)
 (hp:∀ l,lo=some l→∀ id,l≤id→A.top id=none) (h:bB ⟨P,lo⟩ (.jL esz bytes z i j) o.dst env H K):o.wpIn (wf ro) 0 P a w (nD A n M L w K) Q:=by
 simp only [bB] at h
 split at h <;> try exact h.elim
 rename_i l
 have uS:=hf.eval hi
 have Wv:=hf.eval hj
 unfold cp at hz
 split at hz <;> try cases hz
 rename_i esz' z' Ns mB
 split at hz <;> cases hz
 rename_i hcond
 obtain ⟨h0,gC,pH⟩:=hcond
 obtain ⟨inf,g9,db⟩:=tM.1 Ns
 obtain ⟨inf',n7,sq⟩:=tM.1 hb
 rw [g9] at n7;cases n7
 unfold fK at mB
 simp only [g9] at mB
 split at mB <;> try cases mB
 rename_i zv sC
 have Ct:∀ y∈z.cells,∀ own xs,y=.ap own xs→own=0:=by
  intro y hy own xs e
  have:=aaJ.1 AK y hy
  subst e
  simpa using this
 obtain ⟨r,y,L',w',H',O',g1,g2,g3,g4,g5,g6,g7⟩:=AI (P:=P) (ty:=o.type) (hp l rfl) hf.st ht g9 sC db sq h0 qQ mB pH gC Ct h uS Wv
 have bL:(execOp a.eval o).run P w=.ok (.value r) w':=by
  simp only [execOp,ho,resolve,invoke,builtin,Sem.run_bind,Sem.run_pure,Result.andThen_ok,ace,List.map_cons,List.map_nil,g1]
 have EG:Fr A n M L' w' H' env O' a:=⟨g5,hf.size,hf.defers.ext g6⟩
 obtain ⟨O'',pC⟩:=EG.nO hd g2 g3
 exact dc bL ⟨M,L',H',_,O'',g4,pC,g6,g7⟩
theorem GU:∀ {xs ys:List AV},yY xs ys→xs.length=ys.length∧∀ t,(xs.getD t .any).le (ys.getD t .any)
 | [],[],_=>⟨rfl,fun t=>.inl rfl⟩
 | [],_::_,h=>h.elim
 | _::_,[],h=>h.elim
 | x::xs,y::ys,h=>by
   obtain ⟨h1,h2⟩:=h
   obtain ⟨i1,i2⟩:=GU h2
   refine ⟨by simp [i1],fun t=>?_⟩
   cases t with
   | zero=>simpa using h1
   | succ t=>simpa using i2 t
theorem dH (env:Env) (pass:Option Nat):∀ (j:Nat) (xs:List IX),(aK env pass j xs).length=xs.length
 | _,[]=>rfl
 | j,.t s::xs=>by simp [aK,dH env pass (j + 1) xs]
 | j,.c v::xs=>by simp [aK,dH env pass (j + 1) xs]
theorem jO (hf:Fr A n M L w H env O a) (pass:Option Nat):∀ {xs:List Operand} {is:List IX} (j:Nat),fQ xs=some is→aN M L (xs.map a.eval) (aK env pass j is)
 | [],is,j,hc=>by simp [fQ] at hc;subst hc;exact .nil
 | x::xs,is,j,hc=>by
   unfold fQ at hc
   split at hc
   ·rename_i i is' h1 h2
    cases hc
    have hr:=hf.eval h1
    cases i with
    | t s=>
      refine .cons _ _ _ _ ?_ (jO hf pass (j + 1) h2)
      split
      ·exact hr
      ·exact hr.ab
    | c v=>exact .cons _ _ _ _ hr.ab (jO hf pass (j + 1) h2)
   ·cases hc
def dz (A:Perm) (loose:Bool) (H:List aa) (L:List Nat) (O:Pos→Option Nat) (w:World):Perm where
 wr:=fun b=>b∈L∨(∃ p,O p=some b)∨w.heap.size≤b
 top:=fun id=>if id < H.length then some (A.iH H.length id) else if loose=true then none else some (id + 1)
 ok:=by
  intro id n h
  split at h
  ·rename_i h1
   cases h
   have:=A.kZ h1
   omega
  ·split at h
   ·cases h
   ·cases h;omega
theorem lj (A:Perm) (loose:Bool) (H:List aa) (L:List Nat) (O:Pos→Option Nat) (w:World):(dz A loose H L O w).entry loose H.length:=
 ⟨fun id h=>⟨A.iH H.length id,A.vQ _ _,by simp only [dz,if_pos h]⟩,fun id h=>by simp only [dz];rw [if_neg (by omega)]⟩
theorem ub (A:Perm) (loose:Bool) (H:List aa) (L:List Nat) (O:Pos→Option Nat) (w:World) {id:Nat} (h:id < H.length) (len:Nat):(dz A loose H L O w).iH len id=min (A.iH H.length id) len:=by
 unfold Perm.iH
 simp only [dz,if_pos h]
 rfl
theorem St.narrow {ev:Nat→Value} {ea:Nat→AV} (loose:Bool) (h:St A M L w H ev ea O):St (dz A loose H L O w) M L w H ev ea O:=
 { len:=h.len,nodup:=h.nodup,env:=h.env,mem:=h.mem,obj:=h.obj,lt:=h.lt,iL:=h.iL,iI:=h.iI,cj:=h.cj,cv:=h.cv,fy:=h.fy,
   bG:=fun id o ho=>by
    rw [ub A loose H L O w (aO ho),Nat.min_eq_left (A.vQ _ _)]
    exact h.bG id o ho
   La:=fun b hb=>.inl hb,Oa:=fun p b hp=>.inr (.inl ⟨p,hp⟩),fresh:=fun b hb=>.inr (.inr hb) }
theorem St.rf {ev:Nat→Value} {ea:Nat→AV} (h:St A M L w H ev ea O) (ev':Nat→Value) (ea':Nat→AV) (hr:∀ t,aT M L (ev' t) (ea' t)) (hx:∀ t own xs,ea' t=.ap own xs→own=0) :
 St A M L w H ev' ea' (fun p=>match p with | .t _=>none | .c id j=>O (.c id j)):=by
 have hO:∀ (p:Pos) (b:Nat),(match p with | .t _=>none | .c id j=>O (.c id j))=some b→O p=some b:=by
  intro p b hp
  cases p with
  | t t=>cases hp
  | c id j=>exact hp
 exact { len:=h.len,nodup:=h.nodup,env:=hr,mem:=h.mem,obj:=h.obj,bG:=h.bG,lt:=h.lt,iL:=fun t=>bj.free (hx t),iI:=h.iI,cj:=fun p q b hp hq=>h.cj p q b (hO p b hp) (hO q b hq),
         cv:=fun p b hp=>h.cv p b (hO p b hp),fy:=fun p b hp=>h.fy p b (hO p b hp),La:=h.La,Oa:=fun p b hp=>h.Oa p b (hO p b hp),fresh:=h.fresh }
theorem St.Is {ev:Nat→Value} {ea:Nat→AV} (h:St A M L w H ev ea O) {Oc:Pos→Option Nat} (pt:Option Nat) (loose:Bool) (uN:loose=true→∀ id,H.length≤id→A.top id=none) (hOc:∀ b,(∃ p,Oc p=some b)→(∃ id j,O (.c id j)=some b)∨∃ s,pt=some s∧O (.t s)=some b)
 {M':Mem} {L':List Nat} {w':World} {H':List aa} {v:Value} {r:AV} {O':Pos→Option Nat}
 (h':St (dz A loose H L Oc w) M' L' w' H' (fJ (fun _=>undef) 0 v) (fJ (fun _=>.any) 0 r) O') (cF:Ext (dz A loose H L Oc w) M w M' w') (hL:L <+: L') :
 ∃ O'',St A M' L' w' H' ev (k9 ea pt) O''∧Ext A M w M' w'∧aT M' L' v r∧bj M' w' v r (O' (.t 0))∧(∀ q b,O' (.t 0)=some b→O'' q≠some b)∧(∀ b,O' (.t 0)=some b→b∉L'∧b < w'.heap.size∧A b):=by
 have hlen:H.length≤H'.length:=by
  have:=hL.length_le
  rw [h.len,h'.len] at this
  exact this
 have hAc:∀ b,dz A loose H L Oc w b→A b:=by
  rintro b (hb | hb | hb)
  ·exact h.La b hb
  ·rcases hOc b hb with ⟨id,j,hq⟩ | ⟨s,_,hq⟩
   ·exact h.Oa _ b hq
   ·exact h.Oa _ b hq
  ·exact h.fresh b hb
 let O'':Pos→Option Nat:=fun p=>match p with
  | .t i=>if pt=some i then none else O (.t i)
  | .c id j=>O' (.c id j)
 -- what the caller keeps is not the callee's to write
 have j4:∀ i b,pt≠some i→O (.t i)=some b→¬ dz A loose H L Oc w b:=by
  rintro i b hi hb (hc | hc | hc)
  ·exact h.cv _ b hb hc
  ·rcases hOc b hc with ⟨id,j,hq⟩ | ⟨s,hs,hq⟩
   ·have:=h.cj _ _ b hb hq;cases this
   ·have:=h.cj _ _ b hb hq;cases this;exact hi hs
  ·have:=h.fy _ b hb;omega
 have It:∀ i b,O'' (.t i)=some b→pt≠some i∧O (.t i)=some b:=by
  intro i b hb
  simp only [O''] at hb
  split at hb
  ·cases hb
  ·rename_i hi;exact ⟨hi,hb⟩
 have SE:∀ i b p,O'' (.t i)=some b→O' p≠some b:=by
  intro i b p hb hp
  obtain ⟨h1,h2⟩:=It i b hb
  exact j4 i b h1 h2 (h'.Oa p b hp)
 refine ⟨O'',{ len:=h'.len,nodup:=h'.nodup,env:=?_,mem:=h'.mem,obj:=h'.obj,bG:=?_,lt:=h'.lt,iL:=?_,iI:=h'.iI,cj:=?_,cv:=?_,fy:=?_,La:=fun b hb=>hAc b (h'.La b hb),Oa:=?_,fresh:=fun b hb=>h.fresh b (aa1 cF.size hb) },?_,?_,?_,?_,?_⟩
 ·intro t
  have:=(h.env t).mono cF.lH hL
  cases pt with
  | none=>exact this
  | some d=>
    simp only [k9,fJ]
    split
    ·rename_i e0;subst e0;exact this.ab
    ·exact this
 ·intro id o ho
  have h1:=h'.bG id o ho
  have hl:=aO ho
  by_cases e:id < H.length
  ·rw [ub A loose H L Oc w e] at h1
   exact aa.cC (aa1 (aes _ _) (A.Ce hlen id)) o h1
  ·by_cases hx:loose=true
   ·have e1:A.iH H'.length id=H'.length:=by unfold Perm.iH;rw [uN hx id (by omega)]
    rw [e1]
    exact aa.cC (Perm.vQ _ _ _) o h1
   ·have e1:(dz A loose H L Oc w).iH H'.length id=min (id + 1) H'.length:=by
     unfold Perm.iH
     simp only [dz,if_neg e,if_neg hx]
    rw [e1] at h1
    exact aa.cC (aa1 (aes _ _) (A.kZ hl)) o h1
 ·intro t
  have h1:=h.iL t
  cases pt with
  | none=>
    exact h1.mono fun b hb=>cF.j4 b (h.fy _ b hb) (j4 t b (by simp) hb)
  | some d=>
    simp only [k9,fJ,O'']
    by_cases e0:t=d
    ·subst e0
     simp only [if_true]
     exact bj.free (AV.bO _)
    ·have:¬ (some d=some t):=fun e=>e0 (by cases e;rfl)
     simp only [e0,this,if_false]
     exact h1.mono fun b hb=>cF.j4 b (h.fy _ b hb) (j4 t b this hb)
 ·intro p q b hp hq
  cases p with
  | t i=>
    cases q with
    | t j=>exact h.cj _ _ b (It i b hp).2 (It j b hq).2
    | c id j=>exact absurd hq (SE i b _ hp)
  | c id j=>
    cases q with
    | t i=>exact absurd hp (SE i b _ hq)
    | c id' j'=>exact h'.cj _ _ b hp hq
 ·intro p b hp hm
  cases p with
  | t i=>exact j4 i b (It i b hp).1 (It i b hp).2 (h'.La b hm)
  | c id j=>exact h'.cv _ b hp hm
 ·intro p b hp
  cases p with
  | t i=>exact acO (h.fy _ b (It i b hp).2) cF.size
  | c id j=>exact h'.fy _ b hp
 ·intro p b hp
  cases p with
  | t i=>exact h.Oa _ b (It i b hp).2
  | c id j=>exact hAc b (h'.Oa _ b hp)
 ·exact ⟨cF.lH,cF.size,cF.os,cF.tape,cF.output,fun b hb hA=>cF.j4 b hb (fun hc=>hA (hAc b hc)),cF.loops⟩
 ·simpa [fJ] using h'.env 0
 ·simpa [fJ] using h'.iL 0
 ·intro q b hb hq
  cases q with
  | t i=>exact SE i b _ hq hb
  | c id j=>have:=h'.cj _ _ b hb hq;cases this
 ·intro b hb
  exact ⟨h'.cv _ b hb,h'.fy _ b hb,hAc b (h'.Oa _ b hb)⟩
theorem fV (env:Env):∀ (xs:List IX) (j t:Nat),(aK env none j xs).getD t .any=(match xs[t]? with | some x=>(aq env x).ab | none=>.any)
 | [],j,t=>by simp [aK]
 | .t s::xs,j,0=>by simp [aK,aq]
 | .c v::xs,j,0=>by simp [aK,aq]
 | .t s::xs,j,t + 1=>by
   simp only [aK,List.getD_cons_succ,List.getElem?_cons_succ]
   exact fV env xs (j + 1) t
 | .c v::xs,j,t + 1=>by
   simp only [aK,List.getD_cons_succ,List.getElem?_cons_succ]
   exact fV env xs (j + 1) t
theorem fW (env:Env) (k:Nat):∀ (xs:List IX) (j t:Nat),(aK env (some k) j xs).getD t .any=(match xs[t]? with | some (.t s)=>if k=j + t then get env s else (get env s).ab | some (.c v)=>v.ab | none=>.any)
 | [],j,t=>by simp [aK]
 | .t s::xs,j,0=>by simp [aK]
 | .c v::xs,j,0=>by simp [aK]
 | .t s::xs,j,t + 1=>by
   simp only [aK,List.getD_cons_succ,List.getElem?_cons_succ]
   rw [fW env k xs (j + 1) t,show j + 1 + t=j + (t + 1) by omega]
 | .c v::xs,j,t + 1=>by
   simp only [aK,List.getD_cons_succ,List.getElem?_cons_succ]
   rw [fW env k xs (j + 1) t,show j + 1 + t=j + (t + 1) by omega]
theorem rh (vs:List Value) (t:Nat):vs.toArray.getD t undef=vs.getD t undef:=by
 simp [oM]
theorem lO (xs ys zs:List AV) (t:Nat):(xs++ys++zs).getD t .any=if t < xs.length then xs.getD t .any else if t < xs.length + ys.length then ys.getD (t - xs.length) .any else zs.getD (t - xs.length - ys.length) .any:=by
 simp only [oM,aej,aap]
 by_cases h1:t < xs.length
 ·rw [if_pos (by omega),if_pos h1,if_pos h1]
 ·by_cases h2:t < xs.length + ys.length
  ·rw [if_pos h2,if_neg h1,if_neg h1,if_pos h2]
  ·rw [if_neg h2,if_neg h1,if_neg h2,Nat.sub_sub]
theorem sG {o:Oper} {xs:List Operand} {js:List IX} (VS:fQ xs=some js) {pass:Option Nat} {fs cs:List Value} {first cap:List AV} (AL:aN M L fs first) (sE:aN M L cs cap) {bU:List AV}
 (hle:yY (first.map AV.ab++aK env pass 0 js++cap.map AV.ab) bU) (hf:Fr A n M L w H env O a) (hd:∀ d,o.dst=some d→d < n) {loose:Bool} (uN:loose=true→∀ id,H.length≤id→A.top id=none) :
 ∃ Oc,(fs++xs.map a.eval++cs).length=bU.length∧St (dz A loose H L Oc w) M L w H (fun t=>(fs++xs.map a.eval++cs).toArray.getD t undef) (fun t=>bU.getD t .any) Oc∧
  ∀ (v:Value) (r:AV) (H':List aa) (M':Mem) (L':List Nat) (O':Pos→Option Nat) (w':World),K (put o.dst r (cG env (bh js pass))) H'→St (dz A loose H L Oc w) M' L' w' H' (fJ (fun _=>undef) 0 v) (fJ (fun _=>.any) 0 r) O'→Ext (dz A loose H L Oc w) M w M' w'→L <+: L'→
   nD A n M L w K (a.put o.dst v) w':=by
 have hrb:=jO hf pass 0 VS
 have abi:=jO hf none 0 VS
 obtain ⟨hlen,abj⟩:=GU hle
 obtain ⟨vs,yf⟩:∃ vs:List Value,vs=fs++xs.map a.eval++cs:=⟨_,rfl⟩
 have hrv:aN M L vs (first.map AV.ab++aK env pass 0 js++cap.map AV.ab):=by rw [yf];exact (AL.dg.append hrb).append sE.dg
 have abk:aN M L vs (first.map AV.ab++aK env none 0 js++cap.map AV.ab):=by rw [yf];exact (AL.dg.append abi).append sE.dg
 have qX:vs.length=bU.length:=by rw [hrv.length];exact hlen
 -- the callee's state
 have abl:∃ Oc,St A M L w H (fun t=>vs.toArray.getD t undef) (fun t=>bU.getD t .any) Oc∧(∀ b,(∃ p,Oc p=some b)→(∃ id j,O (.c id j)=some b)∨∃ s,bh js pass=some s∧O (.t s)=some b):=by
  have hfree:∀ t own zs,(first.map AV.ab++aK env none 0 js++cap.map AV.ab).getD t .any=.ap own zs→own=0:=by
   intro t own zs he
   have hm:∀ (l:List AV) q,(l.map AV.ab).getD q .any=.ap own zs→own=0:=by
    intro l q hq
    rw [oM,aa0] at hq
    cases hx:l[q]? with
    | none=>simp [hx] at hq
    | some y=>simp [hx] at hq;exact AV.bO y own zs hq
   rw [lO] at he
   split at he
   ·exact hm _ _ he
   ·split at he
    ·rw [fV] at he
     split at he
     ·exact AV.bO _ own zs he
     ·cases he
    ·exact hm _ _ he
  have h0:=hf.st.rf (fun t=>vs.toArray.getD t undef) (fun t=>(first.map AV.ab++aK env none 0 js++cap.map AV.ab).getD t .any) (fun t=>by rw [rh];exact abk.getD t) hfree
  -- then the one that is handed over
  have h1:∃ O1,St A M L w H (fun t=>vs.toArray.getD t undef) (fun t=>(first.map AV.ab++aK env pass 0 js++cap.map AV.ab).getD t .any) O1∧(∀ b,(∃ p,O1 p=some b)→(∃ id j,O (.c id j)=some b)∨∃ s,bh js pass=some s∧O (.t s)=some b):=by
   cases qS:bh js pass with
   | none=>
     refine ⟨_,h0.congr (fun _=>rfl) (fun t=>?_),?_⟩
     ·rw [lO,lO,dH,dH]
      split
      ·rfl
      ·split
       ·cases pass with
        | none=>rfl
        | some k=>
          rw [fV,fW]
          unfold bh at qS
          simp only at qS
          cases hx:js[t - (first.map AV.ab).length]? with
          | none=>rfl
          | some x=>
            cases x with
            | c v=>rfl
            | t s=>
              simp only
              rw [if_neg]
              ·rfl
              ·intro e
               rw [aaQ] at e
               rw [e,hx] at qS
               simp at qS
       ·rfl
     ·rintro b ⟨p,hp⟩
      cases p with
      | t t=>cases hp
      | c id j=>exact .inl ⟨id,j,hp⟩
   | some s=>
     -- where it stands
     obtain ⟨k,rfl,Q4⟩:∃ k,pass=some k∧js[k]?=some (.t s):=by
      unfold bh at qS
      split at qS
      ·rename_i k
       split at qS
       ·rename_i s' SF;cases qS;exact ⟨k,rfl,SF⟩
       ·cases qS
      ·cases qS
     have E2:k < js.length:=aO Q4
     have hargs:∀ (xs:List Operand) (is:List IX),fQ xs=some is→∀ (q s:Nat),is[q]?=some (IX.t s)→xs[q]?=some (Operand.tmp s):=by
      intro xs
      induction xs with
      | nil=>intro is hc q s hq;simp [fQ] at hc;subst hc;simp at hq
      | cons x xs ih=>
        intro is hc q s hq
        unfold fQ at hc
        split at hc
        ·rename_i i is' e1 e2
         cases hc
         cases q with
         | zero=>
           simp at hq;subst hq
           cases x with
           | tmp t=>simp [aQ] at e1;simp [e1]
           | const v=>simp only [aQ] at e1;obtain ⟨_,_,hz⟩:=tM.1 e1;cases hz
           | func f=>simp [aQ] at e1
           | global g=>simp [aQ] at e1
         | succ q=>simpa using ih is' e2 q s (by simpa using hq)
        ·cases hc
     have cT:=hargs _ _ VS k s Q4
     have nE:vs[first.length + k]?=some (a.tmps.getD s undef):=by
      have N1:fs.length=first.length:=AL.length
      rw [yf]
      rw [aaD,aaE (by omega),N1,show first.length + k - first.length=k by omega,tK (by simpa using aO cT),aa0,cT]
      rfl
     have nX:=h0.put (first.length + k) (v:=a.tmps.getD s undef) (x:=get env s) (hf.st.env s) (O (.t s)) (hf.st.iL s) (fun p b hb hp=>by
      cases p with
      | t t=>cases hp
      | c id j=>have:=hf.st.cj _ _ b hb hp;cases this) (fun b hb=>⟨hf.st.cv _ b hb,hf.st.fy _ b hb,hf.st.Oa _ b hb⟩)
     refine ⟨_,nX.congr (fun t=>?_) (fun t=>?_),?_⟩
     ·simp only [fJ]
      split
      ·rename_i e;subst e
       rw [rh,oM,nE];rfl
      ·rfl
     ·simp only [fJ]
      rw [lO,lO,dH,dH]
      simp only [abx]
      by_cases e:t=first.length + k
      ·subst e
       rw [if_pos rfl,if_neg (by omega),if_pos (by omega),show first.length + k - first.length=k by omega,fW,Q4]
       simp
      ·rw [if_neg e]
       split
       ·rfl
       ·split
        ·rw [fV,fW]
         cases hx:js[t - first.length]? with
         | none=>rfl
         | some x=>
           cases x with
           | c v=>rfl
           | t s=>
             simp only
             rw [if_neg (by omega)]
             rfl
        ·rfl
     ·rintro b ⟨p,hp⟩
      simp only [eE] at hp
      split at hp
      ·exact .inr ⟨s,rfl,hp⟩
      ·cases p with
       | t t=>cases hp
       | c id j=>exact .inl ⟨id,j,hp⟩
  obtain ⟨O1,g1,g2⟩:=h1
  obtain ⟨O2,g3,g4⟩:=g1.GM (ea':=fun t=>bU.getD t .any) abj
  exact ⟨O2,g3,fun b ⟨p,hp⟩=>g2 b ⟨p,g4 p b hp⟩⟩
 obtain ⟨Oc,bS,hOc⟩:=abl
 refine ⟨Oc,by rw [← yf];exact qX,by rw [← yf];exact bS.narrow loose,?_⟩
 intro v r H' M' L' O' w' hK mC cF hL
 obtain ⟨O'',k1,k2,k3,k4,k5,k6⟩:=hf.st.Is (bh js pass) loose uN hOc mC cF hL
 have EM:k9 (get env) (bh js pass)=get (cG env (bh js pass)):=by
  cases bh js pass <;> rfl
 rw [EM] at k1
 have pC:Fr A n M' L' w' H' (cG env (bh js pass)) O'' a:=⟨k1,hf.size,hf.defers.ext k2⟩
 show nD A n M L w K (a.put o.dst v) w'
 cases gF:o.dst with
 | none=>rw [gF] at hK;exact ⟨M',L',H',_,O'',hK,pC,k2,hL⟩
 | some d=>
   rw [gF] at hK
   exact ⟨M',L',H',_,_,hK,pC.EN (hd d gF) k3 (O' (.t 0)) k4 (fun q b hb hq=>absurd hq (k5 q b hb)) k6,k2,hL⟩
theorem E3 {o:Oper} {c:Call} (ho:o.op=.call c) {f:Operand} (nG:c.callee=.value f) {i:IX} {js:List IX} (GV:aQ f=some i) (VS:fQ c.args.toList=some js) {pass:Option Nat}
 (hp:∀ l,lo=some l→∀ id,l≤id→A.top id=none) (hf:Fr A n M L w H env O a) (hd:∀ d,o.dst=some d→d < n) (h:bB ⟨P,lo⟩ (.call i js pass) o.dst env H K):o.wpIn (wf ro) 0 P a w (nD A n M L w K) Q:=by
 simp only [bB] at h
 have Nt:=hf.eval GV
 unfold pK at h
 split at h <;> try exact h.elim
 ·rename_i g first cap Ww
  obtain ⟨bU,hle,hcall⟩:=h
  rw [Ww] at Nt
  generalize hu:a.eval f=u at Nt
  cases Nt with
  | fn _ fs cs _ _ AL sE=>
  obtain ⟨loose,uN,hcall⟩:∃ loose:Bool,(loose=true→∀ id,H.length≤id→A.top id=none)∧lh loose P g bU H fun r H'=>K (put o.dst r (cG env (bh js pass))) H':=by
   unfold dD at hcall
   split at hcall
   ·exact ⟨false,by simp,hcall⟩
   ·rename_i l hl
    rcases hcall with hcall | ⟨h1,hcall⟩
    ·exact ⟨false,by simp,hcall⟩
    ·exact ⟨true,fun _ id bm=>hp l hl id (by omega),hcall⟩
  obtain ⟨Oc,qX,bS,fin⟩:=sG (K:=K) (o:=o) VS AL sE hle hf hd uN
  obtain ⟨vs,yf⟩:∃ vs:List Value,vs=fs++c.args.toList.map a.eval++cs:=⟨_,rfl⟩
  rw [← yf] at qX bS
  have bL:(execOp a.eval o).run P w=(callFunc g vs.toArray).run P w:=by
   simp only [execOp,ho,resolve,nG,Deferred.ofValue,hu,invoke,Sem.run_bind,Sem.run_pure,Result.andThen_ok]
   have e1:(fs.toArray++c.args.map a.eval++cs.toArray)=vs.toArray:=by
    apply Array.ext';simp [yf]
   rw [e1]
  rcases hcall (dz A loose H L Oc w) M L w vs.toArray Oc (lj A loose H L Oc w) (by simpa using qX) bS with ⟨h1,hc⟩ | ⟨v,w',r,H',M',L',O',h1,hK,mC,cF,hL⟩
  ·refine lI (bL.trans h1) (by intro d e;cases e) ⟨(fun h=>by cases h),?_⟩
   have mB:CallsIn (wf ro) (0 - 1) P g vs.toArray w _:=callsIn_wide.2 hc
   refine CallsIn.mono mB fun e w' he=>?_
   obtain ⟨v,r,H',M',L',O',rfl,hK,mC,cF,hL⟩:=he
   exact fin v r H' M' L' O' w' hK mC cF hL
  ·exact dc (bL.trans h1) (fin v r H' M' L' O' w' hK mC cF hL)
 ·rename_i id Ww
  obtain ⟨bU,hle,hcall⟩:=h
  rw [Ww] at Nt
  generalize hu:a.eval f=u at Nt
  cases Nt with
  | nN b _ hl=>
  obtain ⟨loose,uN,hcall⟩:∃ loose:Bool,(loose=true→∀ id,H.length≤id→A.top id=none)∧fF loose P id bU H fun r H'=>K (put o.dst r (cG env (bh js pass))) H':=by
   unfold mE at hcall
   split at hcall
   ·exact ⟨false,by simp,hcall⟩
   ·rename_i l hl
    rcases hcall with hcall | ⟨h1,hcall⟩
    ·exact ⟨false,by simp,hcall⟩
    ·exact ⟨true,fun _ id bm=>hp l hl id (by omega),hcall⟩
  obtain ⟨Oc,qX,bS,fin⟩:=sG (K:=K) (o:=o) (fs:=[]) (cs:=[]) (first:=[]) (cap:=[]) VS .nil .nil (by simpa using hle) hf hd uN
  simp only [List.nil_append,aaV] at qX bS
  obtain ⟨fn,tmps,as,bd,h1,h2⟩:=hcall (dz A loose H L Oc w) M L w (c.args.toList.map a.eval).toArray Oc b (lj A loose H L Oc w) (by simpa using qX) hl bS
  have bL:(execOp a.eval o).run P w=.ok (.round b fn tmps as bd) w:=by
   simp only [execOp,ho,resolve,nG,Deferred.ofValue,hu,invoke,Sem.run_bind,Sem.run_pure,Result.andThen_ok]
   have e1:(#[]++c.args.map a.eval:Array Value)=(c.args.toList.map a.eval).toArray:=by
    apply Array.ext';simp
   rw [e1]
   exact h1
  refine lI bL (by intro d e;cases e) ⟨(fun h=>by cases h),?_⟩
  have mB:RoundIn (wf ro) (0 - 1) P b fn tmps as bd w _:=h2
  refine RoundIn.mono mB fun e w' he=>?_
  obtain ⟨v,r,H',M',L',O',rfl,hK,mC,cF,hL⟩:=he
  exact fin v r H' M' L' O' w' hK mC cF hL
end
end Go.aI
end
section
namespace Go.aI
open Go
section
variable {ro:Option Nat} {P:Program} {lo:Option Nat} {A:Perm} {n:Nat} {M:Mem} {L:List Nat} {w:World} {H:List aa} {env:Env} {O:Pos→Option Nat} {a:Act} {Q:Exit→Act→World→Prop} {K:Env→List aa→Prop}
theorem oW {x:AV} {φ:Bool→Prop} (h:fe x φ):∃ b,x=.bool b∧φ b:=by
 unfold fe at h
 split at h
 ·exact ⟨_,rfl,h⟩
 ·exact h.elim
def iM (kd:Nat):Value:=match kd with | 0=>.slice none 0 0 | 1=>.pointer none | 2=>.map none | _=>.nilFunc
def ri (kd:Nat) (D:TypeDesc):Bool:=match kd,D with | 0,.slice _=>true | 1,.pointer _=>true | 2,.map _ _=>true | 3,.func _ _ _=>true | _,_=>false
theorem uT {d kd:Nat} {t:TypeId} {D:TypeDesc} (ht:P.underlying t=some D) (hD:ri kd D=true) {u:Value} {x:AV} {b:Bool} (hx:isNil kd x=some b) (hu:aT M L u x):(Op.equalIn (d + 1) t u (iM kd)).run P w=.ok b w:=by
 unfold isNil at hx
 split at hx <;> cases hx <;> cases D <;> simp [ri] at hD <;> cases hu <;> simp [Op.equalIn,run_underlying ht,iM]
theorem wm {kd:Nat} {neq:Bool} {t:TypeId} {D:TypeDesc} (ht:P.underlying t=some D) (hD:ri kd D=true) {u:Value} {x:AV} {φ:AV→Prop} (h:dk kd neq x φ) (hu:aT M L u x) (X Y:Operand) :
 ∃ r z,(do eqGuard (if neq then .neq else .eql) t X Y u (iM kd);binOp (if neq then .neq else .eql) t u (iM kd):Sem Value).run P w=.ok r w∧aT M L r z∧φ z∧∀ own xs,z=.ap own xs→own=0:=by
 unfold dk at h
 split at h
 rotate_left
 ·split at h <;> try exact h.elim
  cases hu with
  | ap b off c own e cs xs he hx hn hle hc hr hm=>simp at hn
  | gW ad c own hc=>
    have hDs:∃ e,D=.slice e:=by
     cases D <;> simp [ri] at hD
     exact ⟨_,rfl⟩
    obtain ⟨e,rfl⟩:=hDs
    have he0:∀ d,(Op.equalIn (d + 1) t (.slice ad 0 c) (iM 0)).run P w=.ok (ad.isNone) w:=by
     intro d
     cases ad <;> simp [Op.equalIn,run_underlying ht,iM]
    have he:(Op.equal t (.slice ad 0 c) (iM 0)).run P w=.ok (ad.isNone) w:=he0 9999
    have hg:∀ op,(eqGuard op t X Y (.slice ad 0 c) (iM 0)).run P w=.ok () w:=by
     intro op
     unfold eqGuard;cases op <;> rfl
    have h1:binOp .eql t (.slice ad 0 c) (iM 0)=(Op.equal t (.slice ad 0 c) (iM 0) >>= fun q=>(pure (.bool q):Sem Value)):=rfl
    have h2:binOp .neq t (.slice ad 0 c) (iM 0)=(Op.equal t (.slice ad 0 c) (iM 0) >>= fun q=>(pure (.bool (!q)):Sem Value)):=rfl
    have hφ:∀ b,φ (.bool b):=fun b=>by cases b;exact h.2;exact h.1
    cases neq
    ·refine ⟨.bool ad.isNone,.bool ad.isNone,?_,.bool _,hφ _,by intro _ _ e;cases e⟩
     simp only [aaT,if_false,Sem.run_bind,hg,Result.andThen_ok,h1,he,Sem.run_pure]
    ·refine ⟨.bool (!ad.isNone),.bool (!ad.isNone),?_,.bool _,hφ _,by intro _ _ e;cases e⟩
     simp only [if_true,Sem.run_bind,hg,Result.andThen_ok,h2,he,Sem.run_pure]
 rename_i b hb
 have he:(Op.equal t u (iM kd)).run P w=.ok b w:=uT (d:=9999) ht hD hb hu
 have hg:∀ op,(eqGuard op t X Y u (iM kd)).run P w=.ok () w:=by
  intro op
  unfold isNil at hb
  split at hb <;> cases hb <;> cases hu <;> (unfold eqGuard;cases op <;> rfl)
 have h1:binOp .eql t u (iM kd)=(Op.equal t u (iM kd) >>= fun q=>(pure (.bool q):Sem Value)):=by
  unfold isNil at hb
  split at hb <;> cases hb <;> cases hu <;> rfl
 have h2:binOp .neq t u (iM kd)=(Op.equal t u (iM kd) >>= fun q=>(pure (.bool (!q)):Sem Value)):=by
  unfold isNil at hb
  split at hb <;> cases hb <;> cases hu <;> rfl
 cases neq
 ·refine ⟨.bool b,.bool b,?_,.bool _,h,by intro _ _ e;cases e⟩
  simp only [aaT,if_false,Sem.run_bind,hg,Result.andThen_ok,h1,he,Sem.run_pure]
 ·refine ⟨.bool (!b),.bool (!b),?_,.bool _,h,by intro _ _ e;cases e⟩
  simp only [if_true,Sem.run_bind,hg,Result.andThen_ok,h2,he,Sem.run_pure]
theorem wo (hf:Fr A n M L w H env O a) {xs:List Operand} {is:List IX} (hc:fQ xs=some is):aN M L (xs.map a.eval) (is.map fun x=>(aq env x).ab):=by
 have:=(hf.QY hc).dg
 rwa [ab9] at this
theorem cq (hf:Fr A n M L w H env O a) {x:Option Operand} {i:Option IX} (hc:kO x=some i):jz M L (gE env i) (x.map a.eval):=by
 cases x with
 | none=>simp [kO] at hc;subst hc;trivial
 | some x=>
   simp only [kO] at hc
   obtain ⟨j,hj,rfl⟩:=tM.1 hc
   exact hf.eval hj
theorem GW {e:TypeId} {esz:Nat} {z:AV} (h:cp P e=some (esz,z)):dL P e=some esz∧fK P e=some z∧0 < esz∧z.cells.length=esz∧z.val=true:=by
 unfold cp at h
 split at h <;> try cases h
 rename_i h1 h2
 split at h <;> cases h
 rename_i hc
 exact ⟨h1,h2,hc⟩
theorem Iu {x:AV} (h:aL 0 x):jw .string x=true:=by
 cases x <;> first | rfl | exact (show False from h).elim
theorem CF {x:AV} (h:aL 1 x) (e:TypeId):jw (.slice e) x=true:=by
 cases x <;> first | rfl | exact (show False from h).elim
theorem Iv {x:AV} (h:aL 2 x) (k e:TypeId):jw (.map k e) x=true:=by
 cases x <;> first | rfl | exact (show False from h).elim
theorem Ks (o:Oper) {fl:Nat} {i:cb} (hc:cz P o fl=some i) (hp:∀ l,lo=some l→∀ id,l≤id→A.top id=none) (hf:Fr A n M L w H env O a) (hd:∀ d,o.dst=some d→d < n) (hnone:(match o.op with | .store .. | .mapUpdate ..=>o.dst=none | _=>True))
 (h:bB ⟨P,lo⟩ i o.dst env H K):o.wpIn (wf ro) 0 P a w (nD A n M L w K) Q:=by
 cases cT:o.op with
 | move x=>
   simp only [cz,cT] at hc
   obtain ⟨j,hj,rfl⟩:=tM.1 hc
   exact yZ (.inl cT) hj hf hd h
 | assign x=>
   simp only [cz,cT] at hc
   obtain ⟨j,hj,rfl⟩:=tM.1 hc
   exact yZ (.inr cT) hj hf hd h
 | pick c x y=>
   simp only [cz,cT] at hc
   split at hc <;> cases hc
   rename_i c' x' y' h1 h2 h3
   simp only [bB] at h
   obtain ⟨b,hb,h⟩:=oW h
   have hr:=hf.eval h1
   rw [hb] at hr
   generalize hu:a.eval c=u at hr
   cases hr
   cases b
   ·exact wp_pure hf hd (by simp [execOp,cT,hu,asBool]) (hf.eval h3).ab (AV.bO _) (h.2 rfl)
   ·exact wp_pure hf hd (by simp [execOp,cT,hu,asBool]) (hf.eval h2).ab (AV.bO _) (h.1 rfl)
 | alloc e=>
   simp only [cz,cT] at hc
   split at hc <;> try cases hc
   rename_i z hz
   split at hc <;> cases hc
   rename_i hv
   simp only [bB] at h
   obtain ⟨r,L',w',h1,h2,h3,h4,h5⟩:=EQ (P:=P) hf.st hz hv h.1
   exact oV hf hd (by simp only [execOp,cT];exact a8 h1) h2 (by intro _ _ e;cases e) h3 h4 h5 h.2
 | box e x=>
   simp only [cz,cT] at hc
   obtain ⟨j,hj,hc⟩:=tM.1 hc
   split at hc <;> subst hc <;> simp only [bB] at h
   ·obtain ⟨r,M',w',h1,h2,h3,h4⟩:=Ii (P:=P) hf.st e (hf.eval hj) h.1
    exact oV hf hd (by simp only [execOp,cT];exact a8 h1) h2 (by intro _ _ e;cases e) h3 h4 (aau L) h.2
   ·obtain ⟨r,L',w',h1,h2,h3,h4,h5⟩:=Cj (P:=P) hf.st e (hf.eval hj) h.1 h.2.1
    exact oV hf hd (by simp only [execOp,cT];exact a8 h1) h2 (by intro _ _ e;cases e) h3 h4 h5 h.2.2
 | build t ps=>
   simp only [cz,cT] at hc
   split at hc <;> try cases hc
   rename_i z places ht
   split at hc <;> try cases hc
   rename_i qs hq
   split at hc <;> cases hc
   rename_i hv
   simp only [bB] at h
   obtain ⟨r,x,h1,h2,h3,h4⟩:=ES (P:=P) hf ht hq h hv
   exact wp_pure hf hd (by simp only [execOp,cT];exact a8 h1) h2 h4 h3
 | buildSlice t len ps=>
   simp only [cz,cT] at hc
   split at hc <;> try cases hc
   rename_i e ht
   split at hc <;> try cases hc
   rename_i esz z qs hz hq
   split at hc <;> cases hc
   rename_i hlen
   obtain ⟨p1,p2,p3,p4,p5⟩:=GW hz
   obtain ⟨q1,q2⟩:=nr hf _ _ hq
   by_cases Wx:fl=2
   ·rw [if_pos Wx] at h
    simp only [bB] at h
    obtain ⟨r,x,L',w',H',h1,h2,h3,h4,h5,h6,h7⟩:=Ir (P:=P) hf.st ht p1 p3 p2 p4 p5 hlen (vs:=ps.map fun (i,x)=>(i,a.eval x)) (by
     intro j p hp
     obtain ⟨v,v1,v2⟩:=q1 j p hp
     exact ⟨v,by simpa using v1,v2⟩) (by simp [q2]) h
    exact oV hf hd (by simp only [execOp,cT];exact a8 h1) h2 h3 h5 h6 h7 h4
   rw [if_neg Wx] at h
   simp only [bB] at h
   obtain ⟨m,xs,M',w',ad,h1,h2,h3,h4,h5,h6⟩:=uM (P:=P) hf.st ht p1 p3 p2 p4 p5 (if fl=1 then esz else 0) hlen (vs:=ps.map fun (i,x)=>(i,a.eval x)) (by
    intro j p hp
    obtain ⟨v,v1,v2⟩:=q1 j p hp
    exact ⟨v,by simpa using v1,v2⟩) (by simp [q2]) h
   obtain ⟨O',pC⟩:=(hf.mono h5 h6).GO (dst:=o.dst) hd h2 (fun dG y hy=>by
    split at dG
    ·rename_i N1;rw [if_pos N1];exact h3 y hy
    ·exact absurd rfl dG)
   exact dc (by simp only [execOp,cT];exact a8 h1) ⟨M',L,H,_,O',h4,pC,h6,aau L⟩
 | load t x=>
   simp only [cz,cT] at hc
   split at hc <;> try cases hc
   rename_i sz j ht hj
   split at hc
   ·split at hc <;> cases hc
    rename_i hs
    subst hs
    exact wj cT ht hj hf hd h
   split at hc
   ·cases hc
    simp only [bB] at h
    obtain ⟨r,z,h1,h2,h3,h4⟩:=sy (P:=P) ht hf.st h (hf.eval hj)
    obtain ⟨y,M',H',O',g1,g2,g3,g4,g5⟩:=sF hf.st h3 h2
    obtain ⟨O'',pC⟩:=(hf.mono g3 g4).nO (dst:=o.dst) hd g1 g5
    exact dc (by simp only [execOp,cT];exact a8 h1) ⟨M',L,H',_,O'',g2,pC,g4,aau L⟩
   ·cases hc
    simp only [bB] at h
    obtain ⟨r,z,h1,h2,h3,h4⟩:=sy (P:=P) ht hf.st h (hf.eval hj)
    exact bR hf hd ⟨r,z,by simp only [execOp,cT];exact a8 h1,h2,h3,h4⟩
 | store t x y=>
   simp only [cT] at hnone
   simp only [cz,cT] at hc
   split at hc <;> try cases hc
   rename_i m j k ht hj hk
   split at hc
   ·split at hc <;> try cases hc
    rename_i s
    split at hc <;> cases hc
    rename_i hm
    subst hm
    exact yj cT ht hj hk hf hnone h
   split at hc
   ·cases hc
    simp only [bB] at h
    obtain ⟨l,rfl⟩:∃ l,lo=some l:=by cases lo with | none=>exact h.elim | some l=>exact ⟨l,rfl⟩
    obtain ⟨w',H',O',h1,h2,h3,h4⟩:=Cp (P:=P) hf.st (hp l rfl) ht h (hf.eval hj) (hf.eval hk)
    refine mv (by simp only [execOp,cT];exact rc h1) ⟨M,L,H',env,O',h2,?_,h4,aau L⟩
    rw [hnone];exact ⟨h3,hf.size,hf.defers.ext h4⟩
   ·cases hc
    simp only [bB] at h
    obtain ⟨w',H',O',h1,h2,h3,h4⟩:=ET (P:=P) hf.st ht h (hf.eval hj) (hf.eval hk)
    refine mv (by simp only [execOp,cT];exact rc h1) ⟨M,L,H',env,O',h2,?_,h4,aau L⟩
    rw [hnone];exact ⟨h3,hf.size,hf.defers.ext h4⟩
 | nilCheck x=>
   simp only [cz,cT] at hc
   obtain ⟨j,hj,rfl⟩:=tM.1 hc
   simp only [bB] at h
   exact bR hf hd (ye cT h (hf.eval hj))
 | binOp op t x y yt=>
   simp only [cz,cT] at hc
   split at hc <;> try cases hc
   rename_i j k hj hk
   have hx:=hf.eval hj
   have hy:=hf.eval hk
   have plain:∀ {op},dh op (aq env j) (aq env k) (fun z=>K (put o.dst z env) H)→o.op=.binOp op t x y yt→o.wpIn (wf ro) 0 P a w (nD A n M L w K) Q:=by
    intro op h cT
    obtain ⟨r,z,h1,h2,h3,h4⟩:=Kb (P:=P) (w:=w) (t:=t) h hx hy x y
    exact bR hf hd ⟨r,z,by simp only [execOp,cT];exact a8 h1,h2,h3,h4⟩
   split at hc
   ·cases hc
    simp only [bB] at h
    obtain ⟨r,z,h1,h2,h3,h4⟩:=vU (P:=P) (w:=w) (t:=t) h hx hy x y
    exact bR hf hd ⟨r,z,by simp only [execOp,cT];exact a8 h1,h2,h3,h4⟩
   ·cases hc
    simp only [bB] at h
    obtain ⟨r,z,h1,h2,h3,h4⟩:=vU (P:=P) (w:=w) (t:=t) h hx hy x y
    exact bR hf hd ⟨r,z,by simp only [execOp,cT];exact a8 h1,h2,h3,h4⟩
   ·split at hc <;> try cases hc
    ·rename_i ht
     simp only [bB] at h
     obtain ⟨r,z,h1,h2,h3,h4⟩:=tT (P:=P) (w:=w) (neq:=false) ht h hx hy x y
     exact bR hf hd ⟨r,z,by simp only [execOp,cT];exact a8 h1,h2,h3,h4⟩
    ·exact plain (op:=.eql) h cT
    ·exact plain (op:=.eql) h cT
    all_goals
     rename_i ht
     split at hc <;> cases hc
     simp only [bB] at h
     obtain ⟨r,z,h1,h2,h3,h4⟩:=wm (P:=P) (w:=w) (neq:=false) ht rfl h hx x (.const .nilFunc)
     exact bR hf hd ⟨r,z,by simp only [execOp,cT];exact a8 h1,h2,h3,h4⟩
   ·split at hc <;> try cases hc
    ·rename_i ht
     simp only [bB] at h
     obtain ⟨r,z,h1,h2,h3,h4⟩:=tT (P:=P) (w:=w) (neq:=true) ht h hx hy x y
     exact bR hf hd ⟨r,z,by simp only [execOp,cT];exact a8 h1,h2,h3,h4⟩
    ·exact plain (op:=.neq) h cT
    ·exact plain (op:=.neq) h cT
    all_goals
     rename_i ht
     split at hc <;> cases hc
     simp only [bB] at h
     obtain ⟨r,z,h1,h2,h3,h4⟩:=wm (P:=P) (w:=w) (neq:=true) ht rfl h hx x (.const .nilFunc)
     exact bR hf hd ⟨r,z,by simp only [execOp,cT];exact a8 h1,h2,h3,h4⟩
   ·cases hc;exact plain h cT
 | unOp op t x=>
   simp only [cz,cT] at hc
   obtain ⟨j,hj,rfl⟩:=tM.1 hc
   simp only [bB] at h
   obtain ⟨r,z,h1,h2,h3,h4⟩:=NR (P:=P) (w:=w) h (hf.eval hj)
   exact bR hf hd ⟨r,z,by simp only [execOp,cT];exact a8 h1,h2,h3,h4⟩
 | convert src dst x=>
   simp only [cz,cT] at hc
   split at hc <;> try cases hc
   ·rename_i k1 k2 j hs SH hj
    simp only [bB] at h
    obtain ⟨r,z,h1,h2,h3,h4⟩:=Au (P:=P) (w:=w) hs SH h (hf.eval hj)
    exact bR hf hd ⟨r,z,by simp only [execOp,cT];exact a8 h1,h2,h3,h4⟩
   ·rename_i j hs SH hj
    simp only [bB] at h
    obtain ⟨r,z,h1,h2,h3,h4⟩:=Az (P:=P) (w:=w) hs SH h (hf.eval hj)
    exact bR hf hd ⟨r,z,by simp only [execOp,cT];exact a8 h1,h2,h3,h4⟩
   ·rename_i e j hs SH hj
    split at hc <;> cases hc
    rename_i he
    simp only [bB] at h
    obtain ⟨r,z,w',M',ob,h1,h2,h3,h4,h5,h6,h7,h8⟩:=AA (P:=P) hf.st hs SH he h (hf.eval hj)
    exact wi hf hd (by simp only [execOp,cT];exact a8 h1) h2 h4 h5 h6 h7 h8 h3
   ·rename_i e j hs SH hj
    split at hc <;> cases hc
    rename_i he
    simp only [bB] at h
    obtain ⟨r,z,h1,h2,h3,h4⟩:=EX (P:=P) hf.st hs he SH h (hf.eval hj)
    exact bR hf hd ⟨r,z,by simp only [execOp,cT];exact a8 h1,h2,h3,h4⟩
 | makeFunc f first cap=>
   simp only [cz,cT] at hc
   split at hc <;> cases hc
   rename_i i j hi hj
   simp only [bB] at h
   refine bR hf hd ⟨.func f (first.map a.eval) (cap.map a.eval),_,?_,?_,h,by intro _ _ e;cases e⟩
   ·simp only [execOp,cT];rfl
   ·have:=aT.fn (M:=M) (L:=L) f (first.toList.map a.eval) (cap.toList.map a.eval) _ _ (wo hf hi) (wo hf hj)
    rw [show (first.toList.map a.eval).toArray=first.map a.eval by apply Array.ext';simp,show (cap.toList.map a.eval).toArray=cap.map a.eval by apply Array.ext';simp] at this
    exact this
 | makeMap t r=>
   cases r with
   | some r=>simp [cz,cT] at hc
   | none=>
     simp only [cz,cT] at hc
     cases hc
     simp only [bB] at h
     obtain ⟨r,L',w',h1,h2,h3,h4,h5⟩:=E0 (P:=P) hf.st t
     exact oV hf hd (by simp only [execOp,cT];exact a8 h1) h2 (by intro _ _ e;cases e) h3 h4 h5 h
 | makeSlice t l c=>
   simp only [cz,cT] at hc
   split at hc <;> try cases hc
   rename_i e k ht hk
   split at hc <;> try cases hc
   rename_i esz z bytes hz hb
   split at hc <;> try cases hc
   rename_i hcond
   obtain ⟨qQ,AK⟩:=hcond
   obtain ⟨p1,p2,p3,p4,p5⟩:=GW hz
   obtain ⟨inf,g9,db⟩:=tM.1 p1
   obtain ⟨inf',n7,sq⟩:=tM.1 hb
   rw [g9] at n7;cases n7
   unfold fK at p2
   simp only [g9] at p2
   split at p2 <;> try cases p2
   rename_i zv pH
   split at hc
   ·cases hc
    simp only [bB] at h
    have vj:zv.cells.size=esz:=by have:=((cL (M:=M) (L:=L) p2).gA p5).length;rw [p4] at this;simpa using this
    obtain ⟨r,w',M',b,h1,h2,h3,h4,h5,h6,h7,h8,h9,h10⟩:=EW (P:=P) hf.st ht g9 pH db sq p3 qQ vj h (hf.eval hk)
    exact wi hf hd (by simp only [execOp,cT];exact a8 h1) h2 h4 h5 h6 (fun q b' dU=>by cases dU;exact h7 q) (fun b' dU=>by cases dU;exact ⟨h8,h9,h10⟩) h3
   ·split at hc <;> cases hc
    rename_i hsame
    simp only [bB] at h
    have Av:a.eval l=a.eval c:=by
     unfold Kr at hsame
     split at hsame
     ·simp at hsame;subst hsame;rfl
     ·simp at hsame;subst hsame;rfl
     ·cases hsame
    have Ct:∀ y∈z.cells,∀ own xs,y=.ap own xs→own=0:=by
     intro y hy own xs e
     have:=aaJ.1 AK y hy
     subst e
     simpa using this
    obtain ⟨r,x,L',w',H',h1,h2,h3,h4,h5,h6,h7⟩:=EV (P:=P) hf.st ht g9 pH db sq p3 qQ p2 p5 p4 Ct h (hf.eval hk)
    exact oV hf hd (by simp only [execOp,cT,Av];exact a8 h1) h2 h3 h5 h6 h7 h4
 | slice t x lo hi mx=>
   simp only [cz,cT] at hc
   split at hc <;> try cases hc
   ·rename_i e i l h' m ht lM hl hh hm
    split at hc <;> try cases hc
    rename_i esz he
    split at hc <;> cases hc
    rename_i h0
    by_cases N1:fl=4
    ·rw [if_pos N1] at h
     simp only [bB] at h
     obtain ⟨ad,k,c,own,ys,h1,h2,⟨h3,VT⟩,h4⟩:=vY (P:=P) hf.st ht he h0 h.2 (hf.eval lM) h.1 (cq hf hl) (cq hf hh) (cq hf hm)
     cases h3
     obtain ⟨rfl,_⟩:=h4 (by omega)
     have hk:k=0:=by
      cases h2 with
      | gW=>rfl
      | ap b off c own e cs xs he hx hn=>simp at hn
     subst hk
     exact bR hf hd ⟨_,_,by simp only [execOp,cT];exact a8 h1,.nL ad,VT,by intro _ _ e;cases e⟩
    rw [if_neg N1] at h
    simp only [bB] at h
    unfold bA at h
    split at h
    ·rename_i e0 a0 b0 c0 d0 Kk
     rw [← Kk] at h
     split at h
     ·rename_i Cs
      have VQ:mx=none:=by
       cases mx with
       | none=>rfl
       | some q=>simp only [kO] at hm;obtain ⟨_,_,rfl⟩:=tM.1 hm;cases Cs
      subst VQ
      obtain ⟨r,z,h1,h2,h3,h4⟩:=Cz (P:=P) ht he h (hf.eval lM) (cq hf hl) (cq hf hh)
      exact bR hf hd ⟨r,z,by simp only [execOp,cT];exact a8 h1,h2,h3,h4⟩
     ·rename_i m0 Cs
      have hm3:=cq (a:=a) hf hm
      rw [Cs] at hm3
      obtain ⟨r,z,h1,h2,h3,h4⟩:=CA (P:=P) ht he h (hf.eval lM) (cq hf hl) (cq hf hh) hm3
      exact bR hf hd ⟨r,z,by simp only [execOp,cT];exact a8 h1,h2,h3,h4⟩
    obtain ⟨ad,k,c,own,ys,h1,h2,h3,h4⟩:=vY (P:=P) hf.st ht he h0 h.2 (hf.eval lM) h.1 (cq hf hl) (cq hf hh) (cq hf hm)
    by_cases uP:own=0
    ·subst uP
     exact bR hf hd ⟨_,_,by simp only [execOp,cT];exact a8 h1,h2,h3,by intro _ _ e;cases e;rfl⟩
    ·obtain ⟨rfl,h5⟩:=h4 uP
     obtain ⟨O',pC⟩:=hf.GO (dst:=o.dst) hd h2 (fun _=>h5)
     exact dc (by simp only [execOp,cT];exact a8 h1) ⟨M,L,H,_,O',h3,pC,Ext.refl A M w,aau L⟩
   ·rename_i i l h' ht lM hl hh hm
    simp only [bB] at h
    have VQ:mx=none:=by
     cases mx with
     | none=>rfl
     | some q=>simp only [kO] at hm;obtain ⟨_,_,hz⟩:=tM.1 hm;cases hz
    subst VQ
    obtain ⟨r,z,h1,h2,h3,h4⟩:=yi (P:=P) (w:=w) ht h (hf.eval lM) (cq hf hl) (cq hf hh)
    exact bR hf hd ⟨r,z,by simp only [execOp,cT];exact a8 h1,h2,h3,h4⟩
 | fieldAddr s x f=>
   simp only [cz,cT] at hc
   split at hc <;> cases hc
   rename_i off sz j ht hj
   simp only [bB] at h
   obtain ⟨r,z,h1,h2,h3,h4⟩:=vV (P:=P) (w:=w) ht h (hf.eval hj)
   exact bR hf hd ⟨r,z,by simp only [execOp,cT];exact a8 h1,h2,h3,h4⟩
 | field s x f=>
   simp only [cz,cT] at hc
   split at hc <;> cases hc
   rename_i off sz j ht hj
   simp only [bB] at h
   obtain ⟨r,z,h1,h2,h3,h4⟩:=EO (P:=P) (w:=w) ht h (hf.eval hj)
   exact bR hf hd ⟨r,z,by simp only [execOp,cT];exact a8 h1,h2,h3,h4⟩
 | indexAddr t x i=>
   simp only [cz,cT] at hc
   split at hc <;> try cases hc
   rename_i e j k ht hj hk
   obtain ⟨esz,he,rfl⟩:=tM.1 hc
   simp only [bB] at h
   obtain ⟨r,z,h1,h2,h3,h4⟩:=vW (P:=P) (w:=w) ht he h.2 h.1 (hf.eval hj) (hf.eval hk)
   exact bR hf hd ⟨r,z,by simp only [execOp,cT];exact a8 h1,h2,h3,h4⟩
 | index t x i=>
   simp only [cz,cT] at hc
   split at hc <;> try cases hc
   ·rename_i j k ht hj hk
    simp only [bB] at h
    obtain ⟨r,z,h1,h2,h3,h4⟩:=yd (P:=P) (w:=w) ht h (hf.eval hj) (hf.eval hk)
    exact bR hf hd ⟨r,z,by simp only [execOp,cT];exact a8 h1,h2,h3,h4⟩
   ·rename_i m e j k ht hj hk
    split at hc <;> cases hc
    rename_i he
    simp only [bB] at h
    obtain ⟨r,z,h1,h2,h3,h4⟩:=yb (P:=P) (w:=w) ht he h (hf.eval hj) (hf.eval hk)
    exact bR hf hd ⟨r,z,by simp only [execOp,cT];exact a8 h1,h2,h3,h4⟩
 | lookup t m k ok=>
   simp only [cz,cT] at hc
   split at hc <;> try cases hc
   rename_i kt et i j ht hi hj
   split at hc <;> cases hc
   rename_i kd z hk hz
   simp only [bB] at h
   obtain ⟨r,z,h1,h2,h3,h4⟩:=Cw (P:=P) hf.st ht hk hz h (hf.eval hi) (hf.eval hj)
   exact bR hf hd ⟨r,z,by simp only [execOp,cT];exact a8 h1,h2,h3,h4⟩
 | mapUpdate t m k x=>
   simp only [cT] at hnone
   simp only [cz,cT] at hc
   split at hc <;> try cases hc
   rename_i kt et i j y ht hi hj hy
   obtain ⟨kd,hk,rfl⟩:=tM.1 hc
   simp only [bB] at h
   obtain ⟨w',H',h1,h2,h3,h4⟩:=Cy (P:=P) hf.st ht hk h (hf.eval hi) (hf.eval hj) (hf.eval hy)
   refine mv (by simp only [execOp,cT];exact rc h1) ⟨M,L,H',env,O,h2,?_,h4,aau L⟩
   rw [hnone];exact ⟨h3,hf.size,hf.defers.ext h4⟩
 | extract x i=>
   simp only [cz,cT] at hc
   obtain ⟨j,hj,rfl⟩:=tM.1 hc
   simp only [bB] at h
   obtain ⟨r,z,h1,h2,h3,h4⟩:=At (P:=P) (w:=w) h (hf.eval hj)
   exact bR hf hd ⟨r,z,by simp only [execOp,cT];exact a8 h1,h2,h3,h4⟩
 | call c=>
   simp only [cz,cT] at hc
   split at hc
   ·rename_i f nG
    split at hc <;> cases hc
    rename_i i js hi hj
    exact E3 cT nG hi hj hp hf hd h
   ·rename_i nG
    split at hc <;> try cases hc
    rename_i x t hargs AM
    have hcall:c={ callee:=.builtin .len,args:=#[x],argTypes:=#[t] }:=by
     obtain ⟨c1,c2,c3⟩:=c
     simp only at nG hargs AM
     subst nG
     rw [show c2=#[x] from Array.ext' hargs,show c3=#[t] from Array.ext' AM]
    subst hcall
    have fin:∀ {d:TypeDesc} {kd:Nat} {j:IX},P.underlying t=some d→aQ x=some j→jw d (aq env j)=true→(eU (aq env j) H fun z=>K (put o.dst z env) H)→o.wpIn (wf ro) 0 P a w (nD A n M L w K) Q:=by
     intro d kd j ht hj hk h
     obtain ⟨r,z,h1,h2,h3,h4⟩:=Kf (P:=P) ht hf.st hk h (hf.eval hj) o.type
     refine bR hf hd ⟨r,z,?_,h2,h3,h4⟩
     simp only [execOp,cT,resolve,invoke,builtin,Sem.run_bind,Sem.run_pure,Result.andThen_ok,ace,List.map_cons,List.map_nil,h1]
    split at hc <;> cases hc
    ·rename_i j ht hj;exact fin (kd:=0) ht hj (Iu h.1) h.2
    ·rename_i e j ht hj;exact fin (kd:=0) ht hj (CF h.1 e) h.2
    ·rename_i k e j ht hj;exact fin (kd:=0) ht hj (Iv h.1 k e) h.2
   ·rename_i nG
    split at hc <;> try cases hc
    rename_i s x t t' hargs AM
    split at hc <;> try cases hc
    rename_i htt
    subst htt
    split at hc <;> try cases hc
    rename_i e i j ht hi hj
    split at hc <;> try cases hc
    rename_i esz z bytes hz hb
    split at hc <;> try cases hc
    rename_i qQ
    have hcall:c={ callee:=.builtin .append,args:=#[s,x],argTypes:=#[t,t] }:=by
     obtain ⟨c1,c2,c3⟩:=c
     simp only at nG hargs AM
     subst nG
     rw [show c2=#[s,x] from Array.ext' hargs,show c3=#[t,t] from Array.ext' AM]
    subst hcall
    split at hc
    ·split at hc <;> cases hc
     rename_i AK
     exact yl cT ht hz hb qQ AK hi hj hf hd h
    split at hc
    ·split at hc <;> cases hc
     rename_i AK
     exact ym cT ht hz hb qQ AK hi hj hf hd hp h
    cases hc
    exact AJ cT ht hz hb qQ hi hj hf hd h
   ·rename_i nG
    split at hc <;> try cases hc
    rename_i x y hargs
    split at hc <;> cases hc
    rename_i i j hi hj
    simp only [bB] at h
    obtain ⟨r,z,h1,h2,h3,h4⟩:=GP (P:=P) (w:=w) (big:=true) h (hf.eval hi) (hf.eval hj) c.argTypes o.type
    refine bR hf hd ⟨r,z,?_,h2,h3,h4⟩
    have hargs':c.args=#[x,y]:=Array.ext' hargs
    simp only [if_true] at h1
    simp only [execOp,cT,resolve,nG,invoke,builtin,Sem.run_bind,Sem.run_pure,Result.andThen_ok,hargs',ace,List.map_cons,List.map_nil,h1]
   ·rename_i nG
    split at hc <;> try cases hc
    rename_i x y hargs
    split at hc <;> cases hc
    rename_i i j hi hj
    simp only [bB] at h
    obtain ⟨r,z,h1,h2,h3,h4⟩:=GP (P:=P) (w:=w) (big:=false) h (hf.eval hi) (hf.eval hj) c.argTypes o.type
    refine bR hf hd ⟨r,z,?_,h2,h3,h4⟩
    have hargs':c.args=#[x,y]:=Array.ext' hargs
    simp only [aaT,if_false] at h1
    simp only [execOp,cT,resolve,nG,invoke,builtin,Sem.run_bind,Sem.run_pure,Result.andThen_ok,hargs',ace,List.map_cons,List.map_nil,h1]
   ·cases hc
 | _=>simp [cz,cT] at hc
theorem E4 (o:Oper) (hf:Fr A n M L w H env O a) (hd:∀ d,o.dst=some d→d < n) (h:bB ⟨P,lo⟩ (rb P o) o.dst env H K):o.wpIn (wf ro) 0 P a w (nD A n M L w K) Q:=by
 cases cT:o.op with
 | call c=>
   simp only [rb,cT] at h
   split at h <;> try exact h.elim
   rotate_left
   ·rename_i nG
    split at h <;> try exact h.elim
    rename_i s t hargs AM
    split at h <;> try exact h.elim
    rename_i e i ht hi
    split at h <;> try exact h.elim
    rename_i esz z hz
    simp only [bB] at h
    unfold cp at hz
    split at hz <;> try cases hz
    rename_i esz' z' Ns mB
    split at hz <;> cases hz
    rename_i hcond
    obtain ⟨h0,gC,pH⟩:=hcond
    obtain ⟨inf,g9,db⟩:=tM.1 Ns
    unfold fK at mB
    simp only [g9] at mB
    split at mB <;> try cases mB
    rename_i zv sC
    obtain ⟨w',H',O',h1,h2,h3,h4⟩:=CD (P:=P) hf.st ht g9 sC h0 mB pH gC h (hf.eval hi) o.type
    obtain ⟨O'',pC⟩:=(hf.mono h3 h4).nO (dst:=o.dst) hd (.tuple [] [] .nil) (by intro _ _ e;cases e)
    have hargs':c.args=#[s]:=Array.ext' hargs
    have Kt:c.argTypes=#[t]:=Array.ext' AM
    refine dc (v:=.tuple #[]) ?_ ⟨M,L,H',_,O'',h2,pC,h4,aau L⟩
    simp only [execOp,cT,resolve,nG,invoke,builtin,Sem.run_bind,Sem.run_pure,Result.andThen_ok,hargs',Kt,ace,List.map_cons,List.map_nil,h1]
   rename_i nG
   split at h <;> try exact h.elim
   rename_i s x t t' hargs AM
   split at h <;> try exact h.elim
   rename_i e i j ht hi hj
   split at h <;> try exact h.elim
   rename_i esz he
   simp only [bB] at h
   obtain ⟨r,z,w',H',O',h1,h2,h3,h4,h5,h6⟩:=Ip (P:=P) hf.st ht he h (hf.eval hi) (hf.eval hj) t' o.type
   obtain ⟨O'',pC⟩:=(hf.mono h4 h5).nO (dst:=o.dst) hd h2 h6
   have hargs':c.args=#[s,x]:=Array.ext' hargs
   have Kt:c.argTypes=#[t,t']:=Array.ext' AM
   refine dc (v:=r) ?_ ⟨M,L,H',_,O'',h3,pC,h5,aau L⟩
   simp only [execOp,cT,resolve,nG,invoke,builtin,Sem.run_bind,Sem.run_pure,Result.andThen_ok,hargs',Kt,ace,List.map_cons,List.map_nil,h1]
 | _=>simp only [rb,cT] at h;exact h.elim
theorem E5 (o:Oper) (hf:Fr A n M L w H env O a) (hd:∀ d,o.dst=some d→d < n) (h:bB ⟨P,lo⟩ (nZ P o) o.dst env H K):o.wpIn (wf ro) 0 P a w (nD A n M L w K) Q:=by
 have key:∀ {x:Operand},(o.op=.move x∨o.op=.assign x)→∀ {i:IX} {esz:Nat},aQ x=some i→(fL esz (aq env i) H fun z H'=>K (put o.dst z env) H')→o.wpIn (wf ro) 0 P a w (nD A n M L w K) Q:=by
  intro x ho i esz hi h
  obtain ⟨z,M',H',O',h1,h2,h3,h4,h5⟩:=sF hf.st h (hf.eval hi)
  have bL:(execOp a.eval o).run P w=.ok (.value (a.eval x)) w:=by
   rcases ho with ho | ho <;> simp [execOp,ho]
  obtain ⟨O'',pC⟩:=(hf.mono h3 h4).nO (dst:=o.dst) hd h1 h5
  exact dc bL ⟨M',L,H',_,O'',h2,pC,h4,aau L⟩
 cases cT:o.op with
 | move x=>
   simp only [nZ,cT] at h
   split at h <;> try exact h.elim
   rename_i hi ht
   split at h <;> try exact h.elim
   exact key (.inl cT) hi h
 | assign x=>
   simp only [nZ,cT] at h
   split at h <;> try exact h.elim
   rename_i hi ht
   split at h <;> try exact h.elim
   exact key (.inr cT) hi h
 | _=>simp only [nZ,cT] at h;exact h.elim
theorem CG (o:Oper) (esz:Nat) (hf:Fr A n M L w H env O a) (hd:∀ d,o.dst=some d→d < n) (h:bB ⟨P,lo⟩ (lN esz o) o.dst env H K):o.wpIn (wf ro) 0 P a w (nD A n M L w K) Q:=by
 have key:∀ {x:Operand},(o.op=.move x∨o.op=.assign x)→∀ {i:IX},aQ x=some i→(fL esz (aq env i) H fun z H'=>K (put o.dst z env) H')→o.wpIn (wf ro) 0 P a w (nD A n M L w K) Q:=by
  intro x ho i hi h
  obtain ⟨z,M',H',O',h1,h2,h3,h4,h5⟩:=sF hf.st h (hf.eval hi)
  have bL:(execOp a.eval o).run P w=.ok (.value (a.eval x)) w:=by
   rcases ho with ho | ho <;> simp [execOp,ho]
  obtain ⟨O'',pC⟩:=(hf.mono h3 h4).nO (dst:=o.dst) hd h1 h5
  exact dc bL ⟨M',L,H',_,O'',h2,pC,h4,aau L⟩
 cases cT:o.op with
 | move x=>
   simp only [lN,cT] at h
   split at h <;> try exact h.elim
   rename_i hi
   exact key (.inl cT) hi h
 | assign x=>
   simp only [lN,cT] at h
   split at h <;> try exact h.elim
   rename_i hi
   exact key (.inr cT) hi h
 | _=>simp only [lN,cT] at h;exact h.elim
theorem uc (o:Oper) {fl:Nat} (hp:∀ l,lo=some l→∀ id,l≤id→A.top id=none) (hf:Fr A n M L w H env O a) (hd:∀ d,o.dst=some d→d < n) (hnone:(match o.op with | .store .. | .mapUpdate ..=>o.dst=none | _=>True))
 (h:bB ⟨P,lo⟩ (CE P o fl) o.dst env H K):o.wpIn (wf ro) 0 P a w (nD A n M L w K) Q:=by
 unfold CE at h
 split at h
 ·exact E5 o hf hd h
 split at h
 ·exact CG o _ hf hd h
 cases hc:cz P o fl with
 | none=>rw [hc] at h;exact E4 o hf hd h
 | some i=>rw [hc] at h;exact Ks o hc hp hf hd hnone h
end
end Go.aI
end
section
namespace Go.aI
open Go
section
variable {M:Mem} {L:List Nat}
theorem rj {n:Nat}:∀ {xs:List AV},(∀ x∈xs,x.cells.length≠0)→aj n (flat xs)=true→aj n xs=true
 | [],_,_=>rfl
 | x::xs,hx,h=>by
   rw [aY] at h ⊢
   intro y hy
   rcases aan.1 hy with rfl | hy
   ·cases y with
    | agg ys=>
      simp only [AV.a9]
      rw [aY]
      intro z hz
      exact h z (by simp [flat,AV.cells,hz])
    | _=>exact h _ (by simp [flat,AV.cells])
   ·have:=rj (xs:=xs) (n:=n) (fun x qN=>hx x (aay _ qN)) (by
     rw [aY]
     intro z hz
     exact h z (by simp only [flat,List.flatMap_cons,aaO] at hz ⊢;exact .inr hz))
    rw [aY] at this
    exact this y hy
theorem Iw {n:Nat} {x:AV} (h:aj n x.cells=true):x.a9 n=true:=by
 cases x <;> simp_all [AV.cells,AV.a9,aj]
theorem aT.N6 {v:Value} {x:AV} (h:aT M L v x):x.a9 L.length=true:=by
 induction h using aT.rec (motive_2:=fun vs xs _=>aj L.length xs=true) with
 | ap b off c own e cs xs he hx hn hle hc hr hm ih=>exact rj (fun x qN=>by rw [hx x qN];omega) ih
 | aW b off len cap id hl hc=>simp only [AV.a9,decide_eq_true_eq];exact aO hl
 | agg cs xs hr ih=>exact ih
 | tuple cs xs hr ih=>exact ih
 | ptr b off id hl=>simp only [AV.a9,decide_eq_true_eq];exact aO hl
 | ai b off cs x hr hm ih=>simp only [AV.a9];exact Iw ih
 | map b id hl=>simp only [AV.a9,decide_eq_true_eq];exact aO hl
 | nN b id hl=>simp only [AV.a9,decide_eq_true_eq];exact aO hl
 | fn f fs cs xs ys h1 h2 i1 i2=>simp only [AV.a9,Sr];exact ⟨i1,i2⟩
 | iface t v x h ih=>exact ih
 | cons v x vs xs h t i1 i2=>simp only [aj,Sr];exact ⟨i1,i2⟩
 | nil=>rfl
 | _=>rfl
theorem aN.N6:∀ {vs:List Value} {xs:List AV},aN M L vs xs→aj L.length xs=true
 | _,_,.nil=>rfl
 | _,_,.cons _ _ _ _ h t=>by simp only [aj,Sr];exact ⟨h.N6,t.N6⟩
end
section
variable {A:Perm} {M:Mem} {L:List Nat} {w:World} {H:List aa} {ev:Nat→Value} {ea:Nat→AV} {O:Pos→Option Nat}
theorem St.oX (h:St A M L w H ev ea O) {id b:Nat} {st st':VO} {lc:jg} {es:List AV} {r':Loop} (bm:H[id]?=some (.loop st lc es)) (hL:L[id]?=some b)
 (hr:∀ r,w.heap[b]?=some (.loop r)→r'.params=r.params∧r'.assign=r.assign∧r'.body=r.body∧r'.tmps=r.tmps∧r'.defers=r.defers∧st'.ok r') :
 St A M L (w.putObj b (.loop r')) (H.set id (.loop st' lc es)) ev ea O∧Ext A M w M (w.putObj b (.loop r')):=by
 have yP:b∈L:=aaI hL
 have Su:=h.lt b yP
 obtain ⟨r0,hc,p1,p2,p3,p4,p5⟩:=h.obj id _ b bm hL
 obtain ⟨q1,q2,q3,q4,q5,q6⟩:=hr r0 hc
 have gv:∀ k,k≠b→(w.putObj b (.loop r')).heap[k]?=w.heap[k]?:=fun k hk=>World.putObj_heap_other hk
 have nC:(w.putObj b (.loop r')).heap[b]?=some (.loop r'):=World.putObj_heap_same Su
 have VP:∀ o,M b o=none:=by
  intro o
  cases hm:M b o with
  | none=>rfl
  | some v=>
    have:=h.mem b o v hm
    simp [World.cell?,hc] at this
 have qV:id < H.length:=aO bm
 refine ⟨{ len:=by simp [h.len],nodup:=h.nodup,env:=h.env,mem:=?_,obj:=?_,bG:=?_,lt:=?_,iL:=?_,iI:=?_,cj:=h.cj,cv:=h.cv,fy:=?_,La:=h.La,Oa:=h.Oa,fresh:=?_ },?_⟩
 ·intro k o v hv
  have hk:k≠b:=by rintro rfl;rw [VP o] at hv;cases hv
  have:=h.mem k o v hv
  simp only [World.cell?] at this ⊢
  rw [gv k hk];exact this
 ·intro id' o k ho hk
  by_cases e0:id'=id
  ·subst e0
   rw [hL] at hk;cases hk
   rw [tO qV] at ho
   cases ho
   exact ⟨r',nC,q1.trans p1,q2.trans p2,q3.trans p3,by rw [q4];exact p4,q6⟩
  ·rw [tL (fun h'=>e0 h'.symm)] at ho
   have EE:k≠b:=by
    rintro rfl
    exact e0 ((acF (aO hk) h.nodup).1 (hk.trans hL.symm))
   exact (h.obj id' o k ho hk).mono (Mem.bT M) (aau _) (gv k EE) (fun _=>rfl)
 ·intro id' o ho
  rw [abw]
  by_cases e0:id'=id
  ·subst e0
   rw [tO qV] at ho
   cases ho
   exact h.bG id' (.loop st lc es) bm
  ·rw [tL (fun h'=>e0 h'.symm)] at ho
   exact h.bG id' o ho
 ·intro k hk;simpa using h.lt k hk
 ·intro t
  exact (h.iL t).mono fun k hk=>⟨gv k (fun e3=>h.cv _ k hk (e3 ▸ yP)),fun _=>rfl⟩
 ·intro id' j
  by_cases e0:id'=id
  ·subst e0
   have hn:O (.c id' j)=none:=by
    have:=h.iI id' j
    simp only [bC,bm] at this
    exact this
   have e2:bC (H.set id' (.loop st' lc es)) id' j=.any:=by
    unfold bC
    rw [tO qV]
   rw [e2,hn];rfl
  ·have e1:bQ L (w.putObj b (.loop r')) id' j=bQ L w id' j:=by
    unfold bQ
    split
    ·rename_i k hk
     have EE:k≠b:=by
      rintro rfl
      exact e0 ((acF (aO hk) h.nodup).1 (hk.trans hL.symm))
     simp only [World.cell?]
     rw [gv k EE]
    ·rfl
   have e2:bC (H.set id (.loop st' lc es)) id' j=bC H id' j:=by
    unfold bC
    rw [tL (fun h'=>e0 h'.symm)]
   rw [e1,e2]
   exact (h.iI id' j).mono fun k hk=>⟨gv k (fun e3=>h.cv _ k hk (e3 ▸ yP)),fun _=>rfl⟩
 ·intro p k hp;simpa using h.fy p k hp
 ·intro k hk;simp at hk;exact h.fresh k hk
 ·exact ⟨Mem.bT M,by simp,rfl,rfl,rfl,fun k hk hA=>⟨gv k (fun e0=>hA (e0 ▸ h.La b yP)),fun _=>rfl⟩,fun k r hk=>by
   by_cases e0:k=b
   ·subst e0
    rw [hc] at hk;cases hk
    exact ⟨r',nC,q5⟩
   ·exact ⟨r,(gv k e0).trans hk,rfl⟩⟩
def Perm.Wy (A:Perm) (D:Nat):Perm:=⟨fun b=>A b∧b≠D,A.top,A.ok,A.base⟩
def Perm.Le (A' A:Perm):Prop:=A'.top=A.top∧(∀ b,A' b→A b)∧A'.base=A.base
theorem Perm.Le.refl (A:Perm):A.Le A:=⟨rfl,fun _ h=>h,rfl⟩
theorem Perm.Le.trans {A B C:Perm} (h:A.Le B) (k:B.Le C):A.Le C:=⟨h.1.trans k.1,fun b hb=>k.2.1 b (h.2.1 b hb),h.2.2.trans k.2.2⟩
theorem Perm.AN (A:Perm) (D:Nat):(A.Wy D).Le A:=⟨rfl,fun _ h=>h.1,rfl⟩
theorem Perm.Le.iH {A' A:Perm} (h:A'.Le A) (len id:Nat):A'.iH len id=A.iH len id:=by unfold Perm.iH;rw [h.1]
theorem Ext.le {A':Perm} {M':Mem} {w':World} (h:Ext A' M w M' w') (hl:A'.Le A):Ext A M w M' w':=
 ⟨h.lH,h.size,h.os,h.tape,h.output,fun b hb hA=>h.j4 b hb fun h'=>hA (hl.2.1 b h'),h.loops⟩
theorem St.le {A':Perm} (h:St A' M L w H ev ea O) (hl:A'.Le A):St A M L w H ev ea O:=
 { h with bG:=fun id o ho=>by rw [← hl.iH];exact h.bG id o ho,La:=fun b hb=>hl.2.1 b (h.La b hb),Oa:=fun p b hp=>hl.2.1 b (h.Oa p b hp),fresh:=fun b hb=>hl.2.1 b (h.fresh b hb) }
theorem St.Wy (h:St A M L w H ev ea O) {D:Nat} (h1:D∉L) (h2:∀ p,O p≠some D) (h3:D < w.heap.size):St (A.Wy D) M L w H ev ea O:=
 { h with
   bG:=fun id o ho=>by rw [(A.AN D).iH];exact h.bG id o ho
   La:=fun b hb=>⟨h.La b hb,fun e=>h1 (e ▸ hb)⟩
   Oa:=fun p b hp=>⟨h.Oa p b hp,fun e=>h2 p (e ▸ hp)⟩
   fresh:=fun b hb=>⟨h.fresh b hb,fun e=>by omega⟩ }
theorem QX.le {A':Perm} {ds:List Deferred} (h:QX A w ds) (hl:A'.Le A):QX A' w ds:=⟨by rw [hl.2.2];exact h.1,h.2.1,fun d hd=>by
 obtain ⟨D,h1,h2,h3,h4⟩:=h.2.2 d hd
 exact ⟨D,h1,h2,fun h'=>h3 (hl.2.1 D h'),by rw [hl.2.2];exact h4⟩⟩
end
end Go.aI
end
section
namespace Go.aI
open Go
structure bH where
 g:Option (Nat×Bool)
 dst:Option Nat
 op:cb
 deriving Inhabited
inductive DT where
 | done
 | take (st:Bool) (o:bH) (r:DT)
 | br (o:bH) (t rest:DT)
 | nil
 deriving Inhabited
def inst (il:List bH):x9→DT
 | .done=>.done
 | .take i st r=>.take st (il.getD i default) (inst il r)
 | .br i t rest=>.br (il.getD i default) (inst il t) (inst il rest)
 | .nil=>.nil
inductive IR where
 | skip
 | region (ops:List bH) (live:Option (List Nat))
 | draw (t:DT) (live:Option (List Nat))
 | seq (a b:IR)
 | cond (x:IX) (a b:IR)
 | block (id:Nat) (a:IR)
 | loop (a:IR)
 | exit (id:Nat)
 | ret
 | never
 | jA (f:IX) (lc:jg)
 deriving Inhabited
def eM (live:Option (List Nat)) (env:Env):Env:=
 match live with
 | none=>env
 | some l=>l.map fun t=>(t,get env t)
def iU (env:Env) (g:Nat) (want:Bool) (yes no:Env→Prop):Prop:=
 match get env g with
 | .bool b=>(b=want→yes ((g,.bool want)::env))∧(b=(!want)→no ((g,.bool (!want))::env))
 | .tuple []=>no env
 | _=>False
def sH (P:Px) (o:bH) (env:Env) (H:List aa) (K:Env→List aa→Prop):Prop:=
 match o.g with
 | none=>bB P o.op o.dst env H K
 | some (g,want)=>iU env g want (fun env=>bB P o.op o.dst env H K) (fun env=>K (put o.dst (.tuple []) env) H)
def jP (P:Px):List bH→Env→List aa→(Env→List aa→Prop)→Prop
 | [],env,H,K=>K env H
 | o::r,env,H,K=>sH P o env H fun env H=>jP P r env H K
def df (P:Px) (o:cb) (ρ:IX→AV) (H:List aa) (x:AV):Prop:=
 match o with
 | .set i false=>(ρ i).ab=x
 | .pick c a b=>fe (ρ c) fun q=>(q=true→(ρ a).ab=x)∧(q=false→(ρ b).ab=x)
 | .bin op i j=>dh op (ρ i) (ρ j) fun z=>z=x
 | .shift op i j=>dX op (ρ i) (ρ j) fun z=>z=x
 | .iR neq i j=>c9 neq (ρ i) (ρ j) fun z=>z=x
 | .jI kd neq i=>dk kd neq (ρ i) fun z=>z=x
 | .un op i=>As op (ρ i) fun z=>z=x
 | .ms i=>(ρ i).val=true∧.ai (ρ i)=x
 | .build z ps=>cw z.cells (ps.map fun q=>(q.1,q.2.1,ρ q.2.2)) fun v=>v=x
 | .buildSlice own esz z len ps=>bu (List.replicate len (aV z)) esz (ps.map fun q=>(q.1,ρ q.2)) fun xs=>.ap own xs=x
 | .load sz i=>aU sz (ρ i) H fun z=>z=x
 | .nilCheck i=>bZ (ρ i) fun z=>z=x
 | .fieldAddr off sz i=>al off sz (ρ i) fun z=>z=x
 | .field off sz i=>ff off sz (ρ i) fun z=>z=x
 | .indexAddr esz i j=>(∀ own xs,ρ i=.ap own xs→∀ z∈xs,z.cells.length=esz)∧ax esz (ρ i) (ρ j) fun z=>z=x
 | .di i j=>bN (ρ i) (ρ j) fun z=>z=x
 | .dV n i j=>bY n (ρ i) (ρ j) fun z=>z=x
 | .slice esz i lo hi mx=>bA esz (ρ i) (lo.map ρ) (hi.map ρ) (mx.map ρ) fun z=>z=x
 | .dW i lo hi=>cn (ρ i) (lo.map ρ) (hi.map ρ) fun z=>z=x
 | .len kd i=>aL kd (ρ i)∧eU (ρ i) H fun z=>z=x
 | .lookup kd z m k ok=>cu kd z (ρ m) (ρ k) ok H fun v=>v=x
 | .fn f first cap=>.fn f (first.map fun x=>(ρ x).ab) (cap.map fun x=>(ρ x).ab)=x
 | .extract i k=>bK (ρ i) k fun z=>z=x
 | .call f args none=>match ρ f with
   | .fn (.func g) first cap=>∃ bU,yY (first.map AV.ab++(args.map fun x=>(ρ x).ab)++cap.map AV.ab) bU∧aw P.prog g bU H (fun r H'=>r=x∧H'=H)
   | _=>False
 | .eX k i=>cD k (ρ i) fun z=>z=x
 | .gY i=>fU (ρ i) fun z=>z=x
 | .bytesOf i=>fo 1 (ρ i) fun z=>z=x
 | .nR esz bytes i=>jy esz bytes (ρ i) fun z=>z=x
 | .strOf i=>kh (ρ i) fun z=>z=x
 | .mx big i j=>ya big (ρ i) (ρ j) fun z=>z=x
 | _=>False
def dv (P:Px) (st:Bool) (o:cb) (ρ:IX→AV) (H:List aa) (x:AV):Prop:=
 match st with
 | true=>df P o ρ H x
 | false=>∀ H',df P o ρ H' x
def ud (P:Px) (st:Bool) (o:bH) (env:Env) (H:List aa) (K:Env→Prop):Prop:=
 match o.g with
 | none=>∃ x,dv P st o.op (aq env) H x∧K (put o.dst x env)
 | some (g,want)=>iU env g want (fun _=>∃ x,dv P st o.op (aq env) H x∧K (put o.dst x env)) (fun _=>K (put o.dst (.tuple []) env))
def vr (P:Px):DT→Env→List aa→(Env→List aa→Prop)→Prop
 | .done,env,H,K=>K env H
 | .take st o r,env,H,K=>ud P st o env H fun env=>vr P r env H K
 | .br o t rest,env,H,K=>sH P o env H (fun env H=>vr P t env H K)∧vr P rest env H K
 | .nil,_,_,_=>True
def sle (n0:Nat) (env:Env) (H:List aa) (aH:Env) (H':List aa):Prop:=
 (∀ t,(get env t).le (get aH t))∧(H'=H∨∃ m,n0≤m∧H'=H.take m∧∀ t,(get aH t).a9 m=true)
def Ix (n0:Nat) (env:Env) (H:List aa) (aH:Env) (H':List aa):Prop:=
 (∀ t,(get env t).le (get aH t))∧(H'=H∨∃ m,n0≤m∧H'=H.take m∧(∀ id o,n0≤id→id < m→H[id]?=some o→o.a9 m=true)∧∀ t,(get aH t).a9 m=true)
def Iy (lo:Option Nat) (n0:Nat) (env:Env) (H:List aa) (aH:Env) (H':List aa):Prop:=
 match lo with
 | none=>sle n0 env H aH H'
 | some _=>Ix n0 env H aH H'
def ln (n:Nat) (env:Env):List AV:=(List.range n).map fun t=>(get env t).ab
def behind (id:Nat) (H':List aa) (K:Option Code→List aa→Prop):Prop:=
 match H'[id]? with
 | some (.loop .ready lc es)=>K none (H'.set id (.loop .eT lc es))
 | some (.loop (.jump c) lc es)=>K (some c) (H'.set id (.loop .eT lc es))
 | _=>False
def qd (j:Option Code) (Q:Exit→Env→List aa→Prop) (env:Env) (H:List aa):Prop:=
 match j with
 | none=>Q .normal env H
 | some .ret=>Q .ret env H
 | some (.exit id)=>Q (.exit id) env H
 | _=>False
def mn (P:Px) (n0:Nat):IR→Env→List aa→(Exit→Env→List aa→Prop)→Prop
 | .skip,env,H,Q=>Q .normal env H
 | .region ops live,env,H,Q=>jP P ops env H fun aH H'=>Q .normal (eM live aH) H'
 | .draw t live,env,H,Q=>vr P t env H fun aH H'=>Q .normal (eM live aH) H'
 | .seq a b,env,H,Q=>mn P n0 a env H fun e aH H'=>match e with
   | .normal=>mn P n0 b aH H' Q
   | e=>Q e aH H'
 | .cond x a b,env,H,Q=>fe (aq env x) fun q=>(q=true→mn P n0 a env H Q)∧(q=false→mn P n0 b env H Q)
 | .block id a,env,H,Q=>mn P n0 a env H fun e aH H'=>match e with
   | .exit id'=>if id'=id then Q .normal aH H' else Q (.exit id') aH H'
   | e=>Q e aH H'
 | .loop a,env,H,Q=>∃ (ι:Type) (I:ι→Prop) (se:ι→Env) (sh:ι→List aa) (μ:ι→Nat),(∃ i,I i∧Iy P.lo n0 env H (se i) (sh i))∧
    ∀ i,I i→mn P n0 a (se i) (sh i) fun e aH H'=>match e with
     | .normal=>∃ j,I j∧μ j < μ i∧Iy P.lo n0 aH H' (se j) (sh j)
     | e=>Q e aH H'
 | .exit id,env,H,Q=>Q (.exit id) env H
 | .ret,env,H,Q=>Q .ret env H
 | .never,env,H,Q=>False
 | .jA f lc,env,H,Q=>match aq env f with
   | .fn (.func g) first cap=>(∀ (as:Array Value) (w:World),(callFunc g as).run P.prog w=.ok (.enter g as) w)∧
     ∃ bU,yY (first.map AV.ab++[.nN H.length]++cap.map AV.ab) bU∧dD P g bU (H++[.loop .ready lc (ln lc.n env)]) fun _ H'=>behind H.length H' fun j H''=>qd j Q env H''
   | _=>False
def B9.at_ (an:B9) (r i:Nat):Nat:=match an.find? fun x=>x.1 == r && x.2.1 == i with | some x=>x.2.2 | none=>0
def lF.at_ (lv:lF) (r:Nat):Option (List Nat):=(lv.find? fun x=>x.1 == r).map (·.2)
def GX (n:Nat) (o:Oper):Bool:=(match o.dst with | some d=>d < n | none=>true) && (match o.op with | .store .. | .mapUpdate ..=>o.dst.isNone | _=>true)
def GY (ops:Array Oper) (o:Oper):Option (Option (Nat×Bool)):=
 match o.guard with
 | none=>some none
 | some (j,want)=>match (ops[j]?).bind (·.dst) with
   | some g=>some (some (g,want))
   | none=>none
def GZ (i:IX) (d:Nat):Bool:=match i with | .t s=>decide (s≠d) | _=>true
def SJ (P:Program) (ops:Array Oper) (n:Nat) (fl:Nat) (o o':Oper):Option bH:=
 match fl,o.op,o.dst,o.guard,o'.op,o'.dst,o'.guard with
 | 2,.alloc e,some d,none,.store t (.tmp d') x,none,none=>
   if d=d'∧d < n∧t=e then (match aQ x,dL P t,fK P e with
    | some i,some m,some z=>if GZ i d=true∧z.cells.length=m∧z.val=true∧m≠0 then some ⟨none,some d,.sx m i⟩ else none
    | _,_,_=>none) else none
 | _,_,_,_,_,_,_=>none
def eY (P:Program) (ops:Array Oper) (an:B9) (n rid:Nat) (fu:Bool):Nat→Nat→List Oper→Option (List bH)
 | _,_,[]=>some []
 | 0,_,_=>none
 | fuel + 1,k,o::r=>
   if an.at_ rid k=1000∧fu=true then
    match r with
    | o'::r'=>match SJ P ops n 2 o o',eY P ops an n rid fu fuel (k + 2) r' with
      | some x,some xs=>some (x::xs)
      | _,_=>none
    | []=>none
   else
    match GY ops o,eY P ops an n rid fu fuel (k + 1) r with
    | some g,some xs=>if GX n o=true then some (⟨g,o.dst,CE P o (an.at_ rid k)⟩::xs) else none
    | _,_=>none
def cb.all:cb→List IX
 | .set i _=>[i]
 | .pick c a b=>[c,a,b]
 | .bin _ i j | .shift _ i j | .iR _ i j | .indexAddr _ i j | .di i j | .dV _ i j | .lookup _ _ i j _ | .mx _ i j | .store _ i j | .nQ _ i j | .append _ _ i j | .jK _ _ _ i j | .jL _ _ _ i j | .copy _ i j=>[i,j]
 | .nT _ _ i | .Aq _ i | .jI _ _ i | .un _ i | .box i | .ms i | .sx _ i | .load _ i | .tQ _ _ i | .eK i | .nilCheck i | .fieldAddr _ _ i | .field _ _ i | .len _ i | .tS _ _ _ i | .nR _ _ i | .extract i _ | .eX _ i | .gY i | .bytesOf i | .strOf i=>[i]
 | .fA i s=>[i,.t s]
 | .k7 _ i j k=>[i,j,k]
 | .build _ ps=>ps.map fun q=>q.2.2
 | .buildSlice _ _ _ _ ps | .Cg _ _ _ ps=>ps.map fun q=>q.2
 | .slice _ i lo hi m | .pY _ i lo hi m=>i::(lo.toList++hi.toList++m.toList)
 | .dW i lo hi=>i::(lo.toList++hi.toList)
 | .fn _ first cap=>first++cap
 | .call f args _=>f::args
 | .alloc _ | .nS | .never=>[]
def IX.Q5:List IX→List Nat:=fun l=>l.filterMap fun i=>match i with | .t s=>some s | .c _=>none
def cb.kill:cb→List Nat
 | .set (.t s) true=>[s]
 | .fA _ s=>[s]
 | .append _ _ (.t s) _=>[s]
 | .call _ args pass=>(match pass with | some j=>(match args[j]? with | some (.t s)=>[s] | _=>[]) | none=>[])
 | _=>[]
def cb.SK:cb→Bool
 | .box _ | .alloc _ | .eK _ | .store .. | .nQ .. | .tQ .. | .fA .. | .tS .. | .nS | .k7 .. | .call .. | .copy .. | .Aq .. | .Cg .. | .jK .. | .jL .. | .nT .. | .never=>true
 | _=>false
def bH.lk (o:bH):List Nat:=IX.Q5 o.op.all++(match o.g with | some (g,_)=>[g] | none=>[])
def cb.VU (o:cb) (pure:Bool):Bool:=
 match o with
 | .set _ take=>!take
 | .call _ _ none=>pure
 | .never | .call .. | .append ..=>false
 | .sx ..=>false
 | o=>!o.SK
def cb.y7:cb→Bool
 | .box _ | .alloc _ | .nS=>true
 | _=>false
def cb.stays:cb→Bool
 | .call ..=>false
 | _=>true
def sI (st:Bool) (oi oj:bH):Bool:=
 (match oi.dst with | some d=>!oj.lk.contains d && oj.dst != some d && !oj.op.kill.contains d | none=>true) &&
 (match oj.dst with | some d=>!oi.lk.contains d | none=>true) &&
 oj.op.kill.all (fun s=>!oi.lk.contains s) && (!st || !oj.op.SK || (oj.op.y7 && oi.op.stays))
def dr (ops:Array Oper):Nat→Nat→Nat→Bool
 | 0,_,_=>false
 | f + 1,j,i=>match ops[j]? with
   | some o=>o.after.any fun e=>Region.binds .any e && (e.on == i || dr ops f e.on i)
   | none=>false
def n8 (ops:Array Oper) (il:List bH) (listed:Array Bool) (i:Nat) (st:Bool):Bool:=
 (List.range ops.size).all fun j=>j == i || listed.getD j true || dr ops ops.size j i || sI st (il.getD i default) (il.getD j default)
def uU (ops:Array Oper) (il:List bH):Nat→Array Bool→Option (List Nat)→x9→Bool
 | _,listed,none,.done=>(Region.ready .any ops listed).isEmpty
 | f + 1,listed,none,.take i st r=>(Region.ready .any ops listed).contains i && (il.getD i default).op.VU true && n8 ops il listed i st && uU ops il f (listed.setIfInBounds i true) none r
 | f + 1,listed,none,.br i t rest=>(match Region.ready .any ops listed with | k::ks=>k == i && uU ops il f (listed.setIfInBounds i true) none t && uU ops il (f + 1) listed (some ks) rest | []=>false)
 | f + 1,listed,some (k::ks),.br i t rest=>k == i && uU ops il f (listed.setIfInBounds i true) none t && uU ops il (f + 1) listed (some ks) rest
 | _,_,some [],.nil=>true
 | _,_,_,_=>false
def kq:List Edge→Nat
 | []=>0
 | e::r=>if Region.binds .any e=true then (1 <<< e.on) ||| kq r else kq r
def ij (rs:List Nat):List Edge→Nat
 | []=>0
 | e::r=>if Region.binds .any e=true∧e.on < rs.length then ((1 <<< e.on) ||| rs.getD e.on 0) ||| ij rs r else ij rs r
def fq:List Oper→List Nat→List Nat
 | [],acc=>acc
 | o::r,acc=>fq r (acc++[ij acc o.after.toList])
def mF (m:Nat):Nat→List Nat→List Nat
 | _,[]=>[]
 | i,a::r=>if m.testBit i=false∧a &&& m=a then i::mF m (i + 1) r else mF m (i + 1) r
def CH (m i:Nat) (st:Bool) (oi:bH):Nat→List Nat→List bH→Bool
 | j,r::rs,o::os=>(j == i || m.testBit j || r.testBit i || sI st oi o) && CH m i st oi (j + 1) rs os
 | _,_,[]=>true
 | _,[],_::_=>false
def lP (am rm:List Nat) (il:List bH):Nat→Nat→Option (List Nat)→x9→Bool
 | _,m,none,.done=>(mF m 0 am).isEmpty
 | f + 1,m,none,.take i st r=>(mF m 0 am).contains i && (il.getD i default).op.VU true && CH m i st (il.getD i default) 0 rm il && lP am rm il f (m ||| (1 <<< i)) none r
 | f + 1,m,none,.br i t rest=>(match mF m 0 am with | k::ks=>k == i && lP am rm il f (m ||| (1 <<< i)) none t && lP am rm il (f + 1) m (some ks) rest | []=>false)
 | f + 1,m,some (k::ks),.br i t rest=>k == i && lP am rm il f (m ||| (1 <<< i)) none t && lP am rm il (f + 1) m (some ks) rest
 | _,_,some [],.nil=>true
 | _,_,_,_=>false
def lG.at_ (pl:lG) (r:Nat):x9:=match pl.find? fun x=>x.1 == r with | some x=>x.2 | none=>.done
def comp (P:Program) (an:B9) (lv:lF) (pl:lG) (n:Nat):Code→Option IR
 | .skip=>some .skip
 | .region id ops false=>(eY P ops an n id true (ops.size + 1) 0 ops.toList).map fun l=>.region l (lv.at_ id)
 | .region id ops true=>match eY P ops an n id false (ops.size + 1) 0 ops.toList with
   | some il=>if P.follows .mixedOrders=true∧lP (ops.toList.map fun o=>kq o.after.toList) (fq ops.toList []) il ops.size 0 none (pl.at_ id)=true then some (.draw (inst il (pl.at_ id)) (lv.at_ id)) else none
   | none=>none
 | .seq a b=>match comp P an lv pl n a,comp P an lv pl n b with
   | some x,some y=>some (.seq x y)
   | _,_=>none
 | .cond c a b=>match aQ c,comp P an lv pl n a,comp P an lv pl n b with
   | some i,some x,some y=>some (.cond i x y)
   | _,_,_=>none
 | .block id a=>(comp P an lv pl n a).map (.block id)
 | .loop a=>(comp P an lv pl n a).map .loop
 | .exit id=>some (.exit id)
 | .ret=>some .ret
 | .rangeFunc f ps as bd=>(aQ f).map fun i=>.jA i ⟨n,ps.toList,as,bd,an,lv,pl⟩
 | _=>some .never
theorem gg (n k:Nat):(1 <<< n).testBit k=decide (n=k):=by
 rw [Nat.shiftLeft_eq,Nat.one_mul,Nat.testBit_two_pow]
theorem E6 (m:Nat):∀ (es:List Edge),(kq es &&& m=kq es)↔∀ e∈es,Region.binds .any e=true→m.testBit e.on=true:=by
 have key:∀ a:Nat,(a &&& m=a)↔∀ i,a.testBit i=true→m.testBit i=true:=by
  intro a
  constructor
  ·intro h i hi
   rw [← h] at hi
   simp only [Nat.testBit_and,Sr] at hi
   exact hi.2
  ·intro h
   apply Nat.eq_of_testBit_eq
   intro i
   rw [Nat.testBit_and]
   cases ha:a.testBit i with
   | false=>simp
   | true=>simp [h i ha]
 intro es
 rw [key]
 induction es with
 | nil=>simp [kq]
 | cons e r ih=>
   simp only [kq]
   split
   ·rename_i hb
    constructor
    ·intro h e' E7 dU
     rcases aan.1 E7 with rfl | E7
     ·exact h _ (by simp [gg])
     ·exact ih.1 (fun i hi=>h i (by simp [hi])) e' E7 dU
    ·intro h i hi
     simp only [Nat.testBit_or,abm,gg,decide_eq_true_eq] at hi
     rcases hi with rfl | hi
     ·exact h e (by simp) hb
     ·exact ih.2 (fun e' E7 dU=>h e' (aay _ E7) dU) i hi
   ·rename_i hb
    constructor
    ·intro h e' E7 dU
     rcases aan.1 E7 with rfl | E7
     ·exact absurd dU hb
     ·exact ih.1 h e' E7 dU
    ·intro h
     exact ih.2 (fun e' E7 dU=>h e' (aay _ E7) dU)
theorem mG {rs:List Nat} {i:Nat}:∀ {es:List Edge},(ij rs es).testBit i=true→∃ e∈es,Region.binds .any e=true∧e.on < rs.length∧(e.on=i∨(rs.getD e.on 0).testBit i=true)
 | [],h=>by simp [ij] at h
 | e::r,h=>by
   simp only [ij] at h
   split at h
   ·rename_i hb
    simp only [Nat.testBit_or,abm,gg,decide_eq_true_eq] at h
    rcases h with h | h
    ·exact ⟨e,by simp,hb.1,hb.2,h⟩
    ·obtain ⟨e',E7,h'⟩:=mG h
     exact ⟨e',aay _ E7,h'⟩
   ·obtain ⟨e',E7,h'⟩:=mG h
    exact ⟨e',aay _ E7,h'⟩
theorem wu:∀ (l:List Oper) (acc:List Nat),∃ r,fq l acc=acc++r∧r.length=l.length
 | [],acc=>⟨[],by simp [fq],rfl⟩
 | o::l,acc=>by
   obtain ⟨r,h1,h2⟩:=wu l (acc++[ij acc o.after.toList])
   exact ⟨ij acc o.after.toList::r,by simp [fq,h1],by simp [h2]⟩
theorem wv:∀ (l:List Oper) (acc:List Nat) (j:Nat) (o:Oper),l[j]?=some o→(fq l acc)[acc.length + j]?=some (ij ((fq l acc).take (acc.length + j)) o.after.toList)
 | [],acc,j,o,h=>by simp at h
 | x::l,acc,0,o,h=>by
   simp at h
   subst h
   simp only [fq]
   obtain ⟨r,h1,h2⟩:=wu l (acc++[ij acc x.after.toList])
   rw [h1]
   simp
 | x::l,acc,j + 1,o,h=>by
   have ih:=wv l (acc++[ij acc x.after.toList]) j o (by simpa using h)
   simp only [fq]
   simp only [aap,List.length_cons,List.length_nil] at ih
   rw [show acc.length + (j + 1)=acc.length + (0 + 1) + j by omega]
   exact ih
theorem E8 {ops:Array Oper} {i:Nat}:∀ (j f:Nat),j < f→j < ops.size→((fq ops.toList []).getD j 0).testBit i=true→dr ops f j i=true:=by
 intro j
 induction j using Nat.strongRecOn with
 | _ j ih=>
   intro f hf hj h
   have SL:ops[j]?=some ops[j]:=by simp [hj]
   have hg:=wv ops.toList [] j ops[j] (by simp [hj])
   simp only [List.length_nil,aaQ] at hg
   rw [oM,hg,Option.getD_some] at h
   obtain ⟨e,he,hb,aX,Wj⟩:=mG h
   have nH:e.on < j:=by simp at aX;omega
   cases f with
   | zero=>omega
   | succ f=>
     simp only [dr,SL]
     rw [Array.any_eq_true']
     refine ⟨e,by simpa using he,?_⟩
     simp only [Sr,abm,beq_iff_eq]
     refine ⟨hb,?_⟩
     rcases Wj with h1 | h1
     ·exact .inl h1
     ·refine .inr (ih e.on nH f (by omega) (by omega) ?_)
      have:((fq ops.toList []).take j).getD e.on 0=(fq ops.toList []).getD e.on 0:=by
       simp [oM,aax,nH]
      rw [this] at h1
      exact h1
def bitsOf (n:Nat) (listed:Array Bool) (m:Nat):Prop:=listed.size=n∧∀ k,m.testBit k=listed.getD k false
theorem wx {n:Nat} {listed:Array Bool} {m i:Nat} (h:bitsOf n listed m) (hi:i < n):bitsOf n (listed.setIfInBounds i true) (m ||| (1 <<< i)):=by
 obtain ⟨h1,h2⟩:=h
 refine ⟨by simp [h1],fun k=>?_⟩
 rw [Nat.testBit_or,h2 k,gg]
 simp only [aaL,acN]
 by_cases hk:i=k
 ·subst hk
  simp [h1,hi]
 ·simp [hk]
theorem wy {ops:Array Oper} {listed:Array Bool} {m:Nat} (hb:bitsOf ops.size listed m):∀ (l:List Oper) (i:Nat),(∀ j,l[j]?=ops[i + j]?)→
 mF m i (l.map fun o=>kq o.after.toList)=(List.range' i l.length).filter fun i=>!listed.getD i true && ((ops[i]?).map (·.after.all fun e=>!Region.binds .any e || listed.getD e.on false)).getD false
 | [],i,_=>by simp [mF]
 | o::l,i,h=>by
   have h0:ops[i]?=some o:=by simpa using (h 0).symm
   have hi:i < ops.size:=(aaX.1 h0).1
   have ih:=wy hb l (i + 1) (fun j=>by have:=h (j + 1);simpa [acG,aew 1 j] using this)
   simp only [List.map_cons,mF,List.length_cons,List.range'_succ,List.filter_cons]
   have e1:(m.testBit i=false)↔(listed.getD i true=false):=by
    rw [hb.2 i]
    have:i < listed.size:=by rw [hb.1];exact hi
    simp [Array.getD,this]
   have e2:(kq o.after.toList &&& m=kq o.after.toList)↔(o.after.all fun e=>!Region.binds .any e || listed.getD e.on false)=true:=by
    rw [E6,Array.all_eq_true']
    simp only [Array.mem_toList_iff,abm,aaN,hb.2]
    constructor
    ·intro h e he
     cases hbe:Region.binds .any e with
     | false=>exact .inl rfl
     | true=>exact .inr (h e he hbe)
    ·intro h e he hbe
     rcases h e he with h | h
     ·rw [hbe] at h;cases h
     ·exact h
   by_cases hc:m.testBit i=false∧kq o.after.toList &&& m=kq o.after.toList
   ·rw [if_pos hc,if_pos (by rw [h0];simp only [Option.map_some,Option.getD_some,e1.1 hc.1,e2.1 hc.2,Bool.not_false,ab7]),ih]
   ·rw [if_neg hc,if_neg (by
     rw [h0]
     simp only [Option.map_some,Option.getD_some,Sr,aaN]
     intro h'
     exact hc ⟨e1.2 h'.1,e2.2 h'.2⟩),ih]
theorem sJ {ops:Array Oper} {listed:Array Bool} {m:Nat} (hb:bitsOf ops.size listed m):mF m 0 (ops.toList.map fun o=>kq o.after.toList)=Region.ready .any ops listed:=by
 rw [wy hb ops.toList 0 (by simp)]
 unfold Region.ready
 simp [List.range_eq_range']
theorem wz {ops:Array Oper} {il:List bH} {listed:Array Bool} {m i:Nat} {st:Bool} {oi:bH} (hb:bitsOf ops.size listed m):∀ (rs:List Nat) (os:List bH) (j:Nat),(∀ k,os[k]?=il[j + k]?)→(∀ k,rs[k]?=(fq ops.toList [])[j + k]?)→CH m i st oi j rs os=true→
 ∀ k,j≤k→k < ops.size→k < il.length→(k == i || listed.getD k true || dr ops ops.size k i || sI st oi (il.getD k default))=true
 | rs,[],j,h1,_,_,k,Q4,_,hk=>by
   have:=h1 (k - j)
   rw [show j + (k - j)=k by omega] at this
   simp at this
   omega
 | [],o::os,j,h1,h2,h,_,_,_,_=>by simp [CH] at h
 | r::rs,o::os,j,h1,h2,h,k,Q4,EZ,E2=>by
   simp only [CH,Sr] at h
   by_cases hk:k=j
   ·subst hk
    have ho:il.getD k default=o:=by
     have:=h1 0
     simp at this
     rw [oM,← this];rfl
    have hr:(fq ops.toList []).getD k 0=r:=by
     have:=h2 0
     simp at this
     rw [oM,← this];rfl
    have h:=h.1
    simp only [abm] at h ⊢
    rcases h with ((h | h) | h) | h
    ·exact .inl (.inl (.inl h))
    ·refine .inl (.inl (.inr ?_))
     rw [hb.2 k] at h
     have:k < listed.size:=by rw [hb.1];exact EZ
     simpa [Array.getD,this] using h
    ·exact .inl (.inr (E8 k _ EZ EZ (by rw [hr];exact h)))
    ·rw [ho];exact .inr h
   ·exact wz hb rs os (j + 1) (fun q=>by have:=h1 (q + 1);simpa [acG,aew 1 q] using this) (fun q=>by have:=h2 (q + 1);simpa [acG,aew 1 q] using this) h.2 k (by omega) EZ E2
theorem rk {ops:Array Oper} {listed:Array Bool} {i:Nat} (h:i∈Region.ready .any ops listed):i < ops.size:=by
 unfold Region.ready at h
 simp at h
 exact h.1
theorem Ku {ops:Array Oper} {il:List bH} (db:il.length=ops.size):∀ (p:x9) (f m:Nat) (listed:Array Bool) (rem:Option (List Nat)),bitsOf ops.size listed m→(∀ ks,rem=some ks→∀ k∈ks,k < ops.size)→
 lP (ops.toList.map fun o=>kq o.after.toList) (fq ops.toList []) il f m rem p=true→uU ops il f listed rem p=true:=by
 intro p
 induction p with
 | done=>
   intro f m listed rem hb _ h
   cases rem with
   | none=>cases f <;> (simp only [lP,sJ hb] at h;simpa [uU] using h)
   | some ks=>cases ks <;> cases f <;> simp [lP] at h
 | nil=>
   intro f m listed rem hb _ h
   cases rem with
   | none=>cases f <;> simp [lP] at h
   | some ks=>cases ks <;> cases f <;> simp [lP] at h <;> simp [uU]
 | take i st r ih=>
   intro f m listed rem hb _ h
   cases rem with
   | some ks=>cases ks <;> cases f <;> simp [lP] at h
   | none=>
     cases f with
     | zero=>simp [lP] at h
     | succ f=>
       simp only [lP,sJ hb,Sr] at h
       obtain ⟨⟨⟨h1,h2⟩,h3⟩,h4⟩:=h
       have hi:i < ops.size:=rk (by simpa using h1)
       simp only [uU,Sr]
       refine ⟨⟨⟨h1,h2⟩,?_⟩,ih _ _ _ _ (wx hb hi) (by simp) h4⟩
       unfold n8
       refine aaJ.2 fun k hk=>?_
       have NO:k < ops.size:=aaP.1 hk
       exact wz hb (fq ops.toList []) il 0 (fun k=>by rw [aaQ]) (fun k=>by rw [aaQ]) h3 k (ab0 _) NO (by omega)
 | br i t rest Kv JV=>
   intro f m listed rem hb abp h
   cases f with
   | zero=>cases rem with
     | none=>simp [lP] at h
     | some ks=>cases ks <;> simp [lP] at h
   | succ f=>
     cases rem with
     | none=>
       simp only [lP,sJ hb] at h
       simp only [uU]
       split at h
       ·rename_i k ks hr
        simp only [Sr,beq_iff_eq] at h
        obtain ⟨⟨rfl,h1⟩,h2⟩:=h
        have hk:∀ q∈k::ks,q < ops.size:=fun q hq=>rk (by rw [hr];exact hq)
        simp only [Sr,beq_iff_eq,true_and]
        exact ⟨Kv _ _ _ _ (wx hb (hk k (by simp))) (by simp) h1,JV _ _ _ _ hb (fun ks' e q hq=>by cases e;exact hk q (by simp [hq])) h2⟩
       ·cases h
     | some ks=>
       cases ks with
       | nil=>simp [lP] at h
       | cons k ks=>
         simp only [lP,Sr,beq_iff_eq] at h
         obtain ⟨⟨rfl,h1⟩,h2⟩:=h
         have hk:=abp _ rfl
         simp only [uU,Sr,beq_iff_eq,true_and]
         exact ⟨Kv _ _ _ _ (wx hb (hk k (by simp))) (by simp) h1,JV _ _ _ _ hb (fun ks' e q hq=>by cases e;exact hk q (by simp [hq])) h2⟩
theorem Iz (n:Nat):bitsOf n (Array.replicate n false) 0:=⟨by simp,fun k=>by
 simp only [Nat.zero_testBit,aaL,aex]
 split <;> rfl⟩
section
variable {ro:Option Nat} {P:Program} {lo:Option Nat} {A:Perm} {n:Nat} {M:Mem} {L:List Nat} {w:World} {H:List aa} {env:Env} {O:Pos→Option Nat} {a:Act} {ev:Nat→Value} {ea:Nat→AV}
def E9 (A:Perm) (n:Nat) (M0:Mem) (L0:List Nat) (w0:World) (Q:Exit→Env→List aa→Prop) (e:Exit) (a:Act) (w:World):Prop:=
 ∃ A' M L H env O,A'.Le A∧Q e env H∧Fr A' n M L w H env O a∧Ext A M0 w0 M w∧L0 <+: L
theorem Fr.Fa (h:Fr A n M L w H env O a) {aH:Env} (he:get aH=get env):Fr A n M L w H aH O a:=⟨by rw [he];exact h.st,h.size,h.defers⟩
theorem Fr.weaken (h:Fr A n M L w H env O a) {aH:Env} (hl:∀ t,(get env t).le (get aH t)):∃ O',Fr A n M L w H aH O' a:=by
 obtain ⟨O',h'⟩:=h.st.weaken hl
 exact ⟨O',h',h.size,h.defers⟩
theorem le_refl (x:AV):x.le x:=.inl rfl
theorem SM (x:AV):x.le .any:=.inr (.inl rfl)
theorem y8 (live:Option (List Nat)) (env:Env) (t:Nat):(get env t).le (get (eM live env) t):=by
 cases live with
 | none=>exact le_refl _
 | some l=>
   simp only [eM]
   induction l with
   | nil=>exact SM _
   | cons s l ih=>
     simp only [List.map_cons,get]
     split
     ·rename_i e;subst e;exact le_refl _
     ·exact ih
theorem get_mem {env:Env} {t:Nat} {x:AV} (h:get env t=x):x=.any∨(t,x)∈env:=by
 induction env with
 | nil=>left;exact h.symm
 | cons p r ih=>
   obtain ⟨k,v⟩:=p
   simp only [get] at h
   split at h
   ·rename_i e;subst e;subst h;right;simp
   ·rcases ih h with h' | h'
    ·exact .inl h'
    ·exact .inr (aay _ h')
theorem aB (n0:Nat) (env:Env) (H:List aa):sle n0 env H env H:=⟨fun t=>le_refl _,.inl rfl⟩
def fM (lo:Option Nat) (n0:Nat) (A:Perm):Prop:=(∀ id,id < n0→∃ m,m≤n0∧A.top id=some m)∧match lo with
 | none=>∀ id,n0≤id→A.top id=some (id + 1)
 | some l=>l=n0∧∀ id,n0≤id→A.top id=none
theorem fM.opens {n0:Nat} (h:fM lo n0 A):∀ l,lo=some l→∀ id,l≤id→A.top id=none:=by
 rintro l rfl id bm
 obtain ⟨_,rfl,h⟩:=h
 exact h id bm
theorem fM.low {n0 m:Nat} (h:fM lo n0 A) (hm:n0≤m) (hs:St A M L w H ev ea O):∀ id o,id < n0→H[id]?=some o→o.a9 m=true:=by
 intro id o bm ho
 obtain ⟨k,hk,e⟩:=h.1 id bm
 have:=hs.bG id o ho
 refine aa.cC ?_ o this
 unfold Perm.iH
 rw [e]
 exact aa1 (aes _ _) (by omega)
theorem fM.closed {n0 m:Nat} (h:fM none n0 A) (hm:n0≤m) (hs:St A M L w H ev ea O):∀ id o,id < m→H[id]?=some o→o.a9 m=true:=by
 intro id o bm ho
 by_cases e:id < n0
 ·exact h.low hm hs id o e ho
 ·have e1:=h.2 id (by omega)
  have:=hs.bG id o ho
  refine aa.cC ?_ o this
  unfold Perm.iH
  rw [e1]
  exact aa1 (aes _ _) (by omega)
theorem Fr.sle (h:Fr A n M L w H env O a) {aH:Env} {H':List aa} {L0:List Nat} (hA:fM lo L0.length A) (hL:L0 <+: L) (hl:Iy lo L0.length env H aH H'):∃ L' O',Fr A n M L' w H' aH O' a∧L0 <+: L':=by
 have wA:Ix L0.length env H aH H':=by
  unfold Iy at hl
  split at hl
  ·obtain ⟨h1,h2⟩:=hl
   refine ⟨h1,?_⟩
   rcases h2 with rfl | ⟨m,hm,rfl,hb⟩
   ·exact .inl rfl
   ·exact .inr ⟨m,hm,rfl,fun id o _ bm ho=>hA.closed hm h.st id o bm ho,hb⟩
  ·exact hl
 obtain ⟨h1,h2⟩:=wA
 obtain ⟨O',hf⟩:=h.weaken h1
 rcases h2 with rfl | ⟨m,hm,rfl,hc,hb⟩
 ·exact ⟨L,O',hf,hL⟩
 ·obtain ⟨O'',bS⟩:=hf.st.cut m (fun id o bm ho=>by
   by_cases e:id < L0.length
   ·exact hA.low hm hf.st id o e ho
   ·exact hc id o (by omega) bm ho) hb
  refine ⟨L.take m,O'',⟨bS,hf.size,hf.defers⟩,?_⟩
  obtain ⟨r,rfl⟩:=hL
  exact ⟨r.take (m - L0.length),by rw [aeD,aaw hm]⟩
theorem AO {ops:Array Oper} {j g:Nat} (hg:(ops[j]?).bind (·.dst)=some g) (hf:Fr A n M L w H env O a) {b:Bool} (hb:get env g=.bool b):yielded ops a.tmps j=some b:=by
 have hr:=hf.st.env g
 rw [hb] at hr
 generalize hv:a.tmps.getD g undef=v at hr
 cases hr
 have:a.tmps[g]?=some (.bool b):=by
  rw [aaL] at hv
  cases h:a.tmps[g]? with
  | none=>rw [h] at hv;cases hv
  | some v=>rw [h] at hv;simp at hv;rw [hv]
 simp [yielded,hg,this]
theorem yn {ops:Array Oper} {j g:Nat} (hg:(ops[j]?).bind (·.dst)=some g) (hf:Fr A n M L w H env O a) (hb:get env g=.tuple []):yielded ops a.tmps j=none:=by
 have hr:=hf.st.env g
 rw [hb] at hr
 generalize hv:a.tmps.getD g undef=v at hr
 cases hr with
 | tuple cs _ h=>
 rw [aaL] at hv
 simp only [yielded,hg,Option.bind_some]
 cases h:a.tmps[g]? with
 | none=>rfl
 | some v=>rw [h] at hv;simp at hv;rw [hv]
theorem y9 {ops:Array Oper} {o:Oper} {fl:Nat} {g:Option (Nat×Bool)} (hg:GY ops o=some g) (gF:GX n o=true) (hp:∀ l,lo=some l→∀ id,l≤id→A.top id=none) (hf:Fr A n M L w H env O a) {K:Env→List aa→Prop} (h:sH ⟨P,lo⟩ ⟨g,o.dst,CE P o fl⟩ env H K) (Q:Exit→Act→World→Prop) :
 if Region.wanted o (yielded ops a.tmps) then o.wpIn (wf ro) 0 P a w (nD A n M L w K) Q else nD A n M L w K (a.put o.dst undef) w:=by
 simp only [GX,Sr] at gF
 have hd:∀ d,o.dst=some d→d < n:=by
  intro d hd
  have:=gF.1
  rw [hd] at this
  simpa using this
 have hn:(match o.op with | .store .. | .mapUpdate ..=>o.dst=none | _=>True):=by
  have:=gF.2
  split at this <;> first | trivial | skip
  ·simpa using this
  ·simpa using this
 unfold GY at hg
 split at hg
 ·rename_i Nu
  cases hg
  rw [if_pos (by simp [Region.wanted,Nu])]
  exact uc o hp hf hd hn h
 ·rename_i j want Nu
  split at hg <;> cases hg
  rename_i g hgj
  simp only [sH,iU] at h
  split at h
  rotate_left
  ·rename_i hb
   have hy:=yn hgj hf hb
   rw [if_neg (by simp [Region.wanted,Nu,hy])]
   obtain ⟨O',pC⟩:=hf.nO (dst:=o.dst) (v:=undef) (x:=.tuple []) hd (.tuple [] [] .nil) (by intro _ _ e;cases e)
   exact ⟨M,L,H,_,O',h,pC,Ext.refl A M w,aau L⟩
  ·exact h.elim
  rename_i b hb
  have hy:=AO hgj hf hb
  have Wz:get ((g,AV.bool b)::env)=get env:=by
   rw [Ka];funext t;simp only [fJ];split
   ·rename_i e;rw [e,hb]
   ·rfl
  by_cases hw:b=want
  ·subst hw
   rw [if_pos (by simp [Region.wanted,Nu,hy])]
   exact uc o hp (hf.Fa Wz) hd hn (h.1 rfl)
  ·have G8:b=!want:=by cases b <;> cases want <;> simp_all
   subst G8
   rw [if_neg (by simp [Region.wanted,Nu,hy])]
   obtain ⟨O',pC⟩:=(hf.Fa Wz).nO (dst:=o.dst) (v:=undef) (x:=.tuple []) hd (.tuple [] [] .nil) (by intro _ _ e;cases e)
   exact ⟨M,L,H,_,O',h.2 rfl,pC,Ext.refl A M w,aau L⟩
theorem nD.trans {K K':Env→List aa→Prop} {M':Mem} {L':List Nat} {w':World} {a':Act} {w'':World} (cF:Ext A M w M' w') (hL:L <+: L') (h:nD A n M' L' w' K a' w''):nD A n M L w K a' w'':=by
 obtain ⟨M2,L2,H2,cU,O2,h1,h2,h3,h4⟩:=h
 exact ⟨M2,L2,H2,cU,O2,h1,h2,cF.trans h3,hL.trans h4⟩
theorem CJ (w:World) (c c':Array Value) (e:TypeId):({ w with heap:=w.heap.push (.cells c e) }:World).setRow w.heap.size c'={ w with heap:=w.heap.push (.cells c' e) }:=by
 simp only [World.setRow]
 congr 1
 apply Array.ext
 ·simp
 ·intro i h1 h2
  rw [aeL]
  by_cases hi:w.heap.size=i
  ·subst hi;simp
  ·simp only [hi,if_false]
   have:i < w.heap.size:=by simp at h2;omega
   rw [ad3 this,ad3 this]
theorem Fb {ops:Array Oper} {o o':Oper} {x:bH} (hx:SJ P ops n 2 o o'=some x) (hf:Fr A n M L w H env O a) {K:Env→List aa→Prop} (h:sH ⟨P,lo⟩ x env H K) (r:List Oper) (Q:Exit→Act→World→Prop)
 (hrest:∀ a' w',nD A n M L w K a' w'→wpListIn (wf ro) 0 P ops Q r a' w'):wpListIn (wf ro) 0 P ops Q (o::o'::r) a w:=by
 unfold SJ at hx
 split at hx <;> try cases hx
 rename_i e d t d' y _ cT gF Nu abq WA abr
 split at hx <;> try cases hx
 rename_i hcond
 obtain ⟨rfl,Wu,rfl⟩:=hcond
 split at hx <;> try cases hx
 rename_i i m z hi hm hz
 split at hx <;> cases hx
 rename_i hcond
 obtain ⟨dG,gC,pH,Cs⟩:=hcond
 simp only [sH,bB] at h
 obtain ⟨lK,jr,k8,hK⟩:=h
 have hr:=hf.eval hi
 have NV:=hr.gA lK
 have qX:=NV.length
 -- the zero value
 obtain ⟨inf,g9,db⟩:=tM.1 hm
 unfold fK at hz
 simp only [g9] at hz
 split at hz <;> try cases hz
 rename_i zv sC
 have vj:zv.cells.size=m:=by have:=((cL (M:=M) (L:=L) hz).gA pH).length;rw [gC] at this;simpa using this
 have hrun1:(execOp a.eval o).run P w=.ok (.value (.pointer (some ⟨w.heap.size,0,none⟩))) { w with heap:=w.heap.push (.cells zv.cells t) }:=by
  simp only [execOp,cT]
  exact a8 (by simp only [Instr.alloc,zeroValue,typeInfo,Sem.run_bind,run_program,Result.andThen_ok,g9,Sem.run_pure,sC];rfl)
 have hsize:d < a.tmps.size:=by rw [hf.size];exact Wu
 have Sy:(a.put (some d) (.pointer (some ⟨w.heap.size,0,none⟩))).eval (.tmp d)=.pointer (some ⟨w.heap.size,0,none⟩):=by
  show (a.put (some d) _).tmps.getD d undef=_
  rw [vS a d _ hsize d];simp [fJ]
 have abt:(a.put (some d) (.pointer (some ⟨w.heap.size,0,none⟩))).eval y=a.eval y:=by
  cases y with
  | tmp s=>
    simp [aQ] at hi;subst hi
    simp [GZ] at dG
    show (a.put (some d) _).tmps.getD s undef=a.tmps.getD s undef
    rw [vS a d _ hsize s];simp [fJ,dG]
  | _=>rfl
 have bS:=run_storeCells_at P w.heap.size 0 t (a.eval y).cells.toList 0 zv.cells { w with heap:=w.heap.push (.cells zv.cells t) } (dK w _) (by simp at qX ⊢;omega) (NV.gX k8)
 have hwhole:(zv.cells.toList.take (0 + 0)++(a.eval y).cells.toList++zv.cells.toList.drop (0 + 0 + (a.eval y).cells.toList.length)).toArray=(a.eval y).cells:=by
  have:zv.cells.toList.drop (0 + 0 + (a.eval y).cells.toList.length)=[]:=aeA (by simp at qX ⊢;omega)
  rw [this];simp
 rw [hwhole,CJ] at bS
 have hrun2:(execOp (a.put (some d) (.pointer (some ⟨w.heap.size,0,none⟩))).eval o').run P { w with heap:=w.heap.push (.cells zv.cells t) }=.ok .skip { w with heap:=w.heap.push (.cells (a.eval y).cells t) }:=by
  simp only [execOp,abq,Sy,abt]
  refine rc ?_
  have hs:(sizeOf t).run P { w with heap:=w.heap.push (.cells zv.cells t) }=.ok m { w with heap:=w.heap.push (.cells zv.cells t) }:=by simp [sizeOf,typeInfo,g9,db]
  simp only [Instr.storeAt,Instr.sureAddr,storeVar,Sem.run_bind,Sem.run_pure,Result.andThen_ok,hs,ne_eq]
  rw [if_neg (by simp at qX;omega)]
  exact bS
 obtain ⟨g1,g2,g3⟩:=hf.st.EL (a.eval y).cells t
 have fR:aT (M.add w.heap.size (a.eval y).cells.toList) L (.pointer (some ⟨w.heap.size,0,none⟩)) (.ai (aq env i)):=.ai _ _ _ _ (NV.mono g2.lH (aau _)) g3
 obtain ⟨O',pC⟩:=(hf.mono g1 g2).nO (dst:=some d) (fun d' e=>by cases e;exact Wu) fR (by intro _ _ e;cases e)
 have lQ:=hrest _ _ ⟨_,L,H,_,O',hK,pC,g2,aau L⟩
 unfold wpListIn
 rw [if_pos (by simp [Region.wanted,Nu])]
 refine lI hrun1 (by intro d e;cases e) ?_
 rw [Oper.uponIn_value,gF]
 unfold wpListIn
 rw [if_pos (by simp [Region.wanted,abr])]
 refine lI hrun2 (by intro d e;cases e) ?_
 rw [Oper.uponIn_skip,WA]
 exact lQ
theorem qe {ops:Array Oper} {an:B9} {rid:Nat} {fu:Bool} (hp:∀ l,lo=some l→∀ id,l≤id→A.top id=none) (Q:Exit→Act→World→Prop):∀ (fuel k:Nat) (l:List Oper) (il:List bH),eY P ops an n rid fu fuel k l=some il→∀ {M:Mem} {L:List Nat} {w:World} {H:List aa} {env:Env} {O:Pos→Option Nat} {a:Act} (K:Env→List aa→Prop),
 Fr A n M L w H env O a→jP ⟨P,lo⟩ il env H K→(∀ a' w',nD A n M L w K a' w'→Q .normal a' w')→wpListIn (wf ro) 0 P ops Q l a w
 | _,_,[],il,hc,M,L,w,H,env,O,a,K,hf,h,hQ=>by
   unfold eY at hc
   cases hc
   exact hQ a w ⟨M,L,H,env,O,h,hf,Ext.refl A M w,aau L⟩
 | 0,_,o::r,il,hc,_,_,_,_,_,_,_,_,_,_,_=>by simp [eY] at hc
 | fuel + 1,k,o::r,il,hc,M,L,w,H,env,O,a,K,hf,h,hQ=>by
   unfold eY at hc
   split at hc
   ·-- a new variable with its first value
    split at hc <;> try cases hc
    rename_i o' r'
    split at hc <;> cases hc
    rename_i x xs hx fS
    simp only [jP] at h
    refine Fb hx hf h r' Q ?_
    rintro a' w' ⟨M',L',H',aH,O',k1,k2,k3,k4⟩
    exact qe hp Q fuel (k + 2) r' xs fS K k2 k1 (fun a2 w2 h2=>hQ a2 w2 (nD.trans (K':=K) k3 k4 h2))
   ·split at hc <;> try cases hc
    rename_i g xs hg fS
    split at hc <;> cases hc
    rename_i gF
    simp only [jP] at h
    have h1:=y9 (ro:=ro) (ops:=ops) hg gF hp hf h Q
    have hrest:∀ a' w',nD A n M L w (fun env H=>jP ⟨P,lo⟩ xs env H K) a' w'→wpListIn (wf ro) 0 P ops Q r a' w':=by
     rintro a' w' ⟨M',L',H',aH,O',k1,k2,k3,k4⟩
     exact qe hp Q fuel (k + 1) r xs fS K k2 k1 (fun a2 w2 h2=>hQ a2 w2 (nD.trans (K':=K) k3 k4 h2))
    unfold wpListIn
    split
    ·rename_i hw
     rw [if_pos hw] at h1
     exact Oper.wpIn_mono hrest h1
    ·rename_i hw
     rw [if_neg hw] at h1
     exact ⟨fun _ _=>trivial,hrest _ _ h1⟩
theorem E9.trans {A':Perm} {M0 M1:Mem} {L0:List Nat} {w0 w1:World} {Q:Exit→Env→List aa→Prop} {e:Exit} {a:Act} {w:World} (hl:A'.Le A) (hx:Ext A M0 w0 M1 w1) (hp:E9 A' n M1 L0 w1 Q e a w):E9 A n M0 L0 w0 Q e a w:=by
 obtain ⟨A2,M,L,H,env,O,hA,h1,h2,h3,h4⟩:=hp
 exact ⟨A2,M,L,H,env,O,hA.trans hl,h1,h2,hx.trans (h3.le hl),h4⟩
theorem fM.le {n0:Nat} {A':Perm} (h:fM lo n0 A) (hl:A'.Le A):fM lo n0 A':=by
 unfold fM at *
 rw [hl.1]
 exact h
def Own (ro:Option Nat) (w:World):Prop:=∀ l,ro=some l→∃ r,w.heap[l]?=some (.loop r)
theorem Own.ext {M':Mem} {w':World} (h:Own ro w) (hx:Ext A M w M' w'):Own ro w':=fun l hl=>by
 obtain ⟨r,hr⟩:=h l hl
 obtain ⟨r',hr',_⟩:=hx.loops l r hr
 exact ⟨r',hr'⟩
theorem IA (p:Nat→Prop) (h:∃ k,p k):∃ k,p k∧∀ j,p j→k≤j:=by
 obtain ⟨k,hk⟩:=h
 induction k using Nat.strongRecOn with
 | _ k ih=>
   by_cases hl:∃ j,j < k∧p j
   ·obtain ⟨j,hj,hp⟩:=hl
    exact ih j hj hp
   ·exact ⟨k,hk,fun j hj=>by
     rcases aet j k with h' | h'
     ·exact absurd ⟨j,h',hj⟩ hl
     ·exact h'⟩
theorem AP {F:Fence} {k:Nat} {c:Code} {Q:Exit→Act→World→Prop} {w:World} {a:Act} {ι:Type} (I:ι→Act→World→Prop) (μ:ι→Nat)
 (round:∀ i a w,I i a w→c.wpIn F k P (Exit.then (fun a' w'=>∃ j,I j a' w'∧μ j < μ i) Q) a w) (i0:ι) (h0:I i0 a w):(Code.loop c).wpIn F k P Q a w:=by
 let p:Act→World→Nat→Prop:=fun a w k=>∃ i,I i a w∧μ i=k
 let ν:Act→World→Nat:=fun a w=>Classical.epsilon fun k=>p a w k∧∀ j,p a w j→k≤j
 have hν:∀ a w,(∃ i,I i a w)→p a w (ν a w)∧∀ j,p a w j→ν a w≤j:=by
  rintro a w ⟨i,hi⟩
  exact Classical.epsilon_spec (IA (p a w) ⟨μ i,i,hi,rfl⟩)
 refine wpIn_loop (fun a w=>∃ i,I i a w) ν ⟨i0,h0⟩ ?_
 intro a w hI
 obtain ⟨⟨i,hi,hμ⟩,_⟩:=hν a w hI
 refine Go.wpIn_mono (round i a w hi) ?_
 intro e a' w' h
 cases e with
 | normal=>
   obtain ⟨j,hj,aX⟩:=h
   refine ⟨⟨j,hj⟩,?_⟩
   have:=(hν a' w' ⟨j,hj⟩).2 (μ j) ⟨j,hj,rfl⟩
   omega
 | _=>exact h
def za (P:Program) (ro lo:Option Nat) (A:Perm) (n:Nat) (L0:List Nat):Prop:=
 ∀ {id:Nat} {ops:Array Oper} {il:List bH} {p:x9} {live:Option (List Nat)} {an:B9} {M:Mem} {L:List Nat} {w:World} {H:List aa} {env:Env} {O:Pos→Option Nat} {a:Act} {M0:Mem} {w0:World} {Q:Exit→Env→List aa→Prop},
  P.follows .mixedOrders=true→lP (ops.toList.map fun o=>kq o.after.toList) (fq ops.toList []) il ops.size 0 none p=true→eY P ops an n id false (ops.size + 1) 0 ops.toList=some il→mn ⟨P,lo⟩ L0.length (.draw (inst il p) live) env H Q→Fr A n M L w H env O a→Ext A M0 w0 M w→L0 <+: L→(Code.region id ops true).wpIn (wf ro) 0 P (E9 A n M0 L0 w0 Q) a w
theorem CK {L0:List Nat} (hA:fM lo L0.length A) {f:Operand} {ps:Array Tmp} {as bd:Code} {an:B9} {lv:lF} {pl:lG} {i:IX} (hi:aQ f=some i) {Q:Exit→Env→List aa→Prop}
 (xZ:Own ro w) (h:mn ⟨P,lo⟩ L0.length (.jA i ⟨n,ps.toList,as,bd,an,lv,pl⟩) env H Q) (hf:Fr A n M L w H env O a) (hL:L0 <+: L):(Code.rangeFunc f ps as bd).wpIn (wf ro) 0 P (E9 A n M L0 w Q) a w:=by
 have Nt:=hf.eval hi
 simp only [mn] at h
 split at h <;> try exact h.elim
 rename_i g first cap Ww
 obtain ⟨hcf,bU,hle,hcall⟩:=h
 rw [Ww] at Nt
 generalize hu:a.eval f=u at Nt
 cases Nt with
 | fn _ fs cs _ _ AL sE=>
 refine wpIn_rangeFunc fun fn _=>?_
 -- the record
 have enter:∃ (l:Nat) (mark:List Deferred) (w1:World) (A1:Perm),(Instr.enterLoop fn a.tmps ps as bd ro).run P w=.ok (l,mark) w1∧A1.Le A∧
  Fr A1 n M (L++[l]) w1 (H++[.loop .ready ⟨n,ps.toList,as,bd,an,lv,pl⟩ (ln n env)]) env O { a with defers:=mark++a.defers }∧Ext A M w M w1:=by
  have AD:aN M L a.tmps.toList (ln n env):=by
   refine aN.An (by simp [ln,hf.size]) fun j x hx=>?_
   simp only [ln,aa0] at hx
   obtain ⟨t,ht,rfl⟩:=tM.1 hx
   obtain ⟨qO,rfl⟩:=aaz.1 ht
   simp only [List.length_range] at qO
   simp only [List.getElem_range]
   have:=(hf.st.env j).ab
   refine ⟨a.tmps.getD j undef,?_,this⟩
   rw [aaL,acP,adm (by rw [hf.size];exact qO)]
   rfl
  have mj:(aa.loop .ready ⟨n,ps.toList,as,bd,an,lv,pl⟩ (ln n env)).a9 (H.length + 1)=true:=by
   simp only [aa.a9]
   have:=AD.N6
   rw [hf.st.len] at this
   exact bD (by omega) _ this
  cases ro with
  | none=>
    have hg:=hf.st.grow (w':={ w with heap:=w.heap.push (.deferred (some [])) }) (Mem.bT M) (fun b o v hv=>by
     have h1:=hf.st.mem b o v hv
     simp only [World.cell?] at h1 ⊢
     cases hb:w.heap[b]? with
     | none=>rw [hb] at h1;simp at h1
     | some ob=>rw [eF w _ (aaX.1 hb).1];exact h1) (by simp) (fun b hb=>eF w _ hb) (fun _ _ _=>rfl)
    have ue:Ext A M w M { w with heap:=w.heap.push (.deferred (some [])) }:=Ext.grow (Mem.bT M) (by simp) rfl rfl rfl (fun b hb=>eF w _ hb) (fun _ _ _=>rfl)
    have hb:=hg.Wy (D:=w.heap.size) (fun hm=>by have:=hf.st.lt _ hm;omega) (fun p hp=>by have:=hf.st.fy _ _ hp;omega) (by simp)
    obtain ⟨g1,g2⟩:=hb.sw (.loop { state:=.ready,pending:=none,fn,tmps:=a.tmps,params:=ps,assign:=as,body:=bd,defers:=w.heap.size }) (.loop .ready ⟨n,ps.toList,as,bd,an,lv,pl⟩ (ln n env))
     (fun w' Kj _=>⟨_,Kj,(aeK).symm,rfl,rfl,AD.mono (Mem.bT M) ⟨_,rfl⟩,rfl,rfl⟩) mj (fun j=>rfl)
    refine ⟨w.heap.size + 1,_,_,A.Wy w.heap.size,run_enterLoop_outer _ _ _ _ _,A.AN _,⟨?_,hf.size,?_⟩,?_⟩
    ·have e1:({ w with heap:=w.heap.push (.deferred (some [])) }:World).heap.size=w.heap.size + 1:=by simp
     rw [e1] at g1
     exact g1
    ·have old:=((hf.defers.ext ue).le (A.AN w.heap.size)).ext g2
     refine ⟨old.1,?_,fun d hd=>?_⟩
     ·show (_::a.defers).Nodup
      rw [List.nodup_cons]
      refine ⟨fun hm=>?_,old.2.1⟩
      obtain ⟨D,e,hD,_⟩:=hf.defers.2.2 _ hm
      cases e
      have:=(aaX.1 hD).1
      omega
     rcases aaO.1 hd with hd | hd
     ·rw [aav] at hd
      subst hd
      refine ⟨w.heap.size,rfl,?_,(fun h=>h.2 rfl),(show A.base≤w.heap.size from hf.defers.1)⟩
      show ((w.heap.push _).push _)[w.heap.size]?=_
      rw [Array.getElem?_push_lt (by simp)]
      simp
     ·exact old.2.2 d hd
    ·exact ue.trans (g2.le (A.AN _))
  | some l0=>
    obtain ⟨r0,hr0⟩:=xZ l0 rfl
    obtain ⟨g1,g2⟩:=hf.st.sw (.loop { state:=.ready,pending:=none,fn,tmps:=a.tmps,params:=ps,assign:=as,body:=bd,defers:=r0.defers }) (.loop .ready ⟨n,ps.toList,as,bd,an,lv,pl⟩ (ln n env))
     (fun w' Kj _=>⟨_,Kj,(aeK).symm,rfl,rfl,AD.mono (Mem.bT M) ⟨_,rfl⟩,rfl,rfl⟩) mj (fun j=>rfl)
    exact ⟨w.heap.size,[],_,A,run_enterLoop_inner hr0 _ _ _ _ _,Perm.Le.refl A,⟨g1,hf.size,by simpa using hf.defers.ext g2⟩,g2⟩
 obtain ⟨l,mark,w1,A1,he,Fc,EG,ue⟩:=enter
 have IB:L.length=H.length:=hf.st.len
 have uV:(L++[l])[H.length]?=some l:=by rw [← IB];simp
 have SN:fM lo L0.length A1:=hA.le Fc
 obtain ⟨loose,uN,hcall⟩:∃ loose:Bool,(loose=true→∀ id,(H++[aa.loop .ready ⟨n,ps.toList,as,bd,an,lv,pl⟩ (ln n env)]).length≤id→A1.top id=none)∧
  lh loose P g bU (H++[.loop .ready ⟨n,ps.toList,as,bd,an,lv,pl⟩ (ln n env)]) fun _ H'=>behind H.length H' fun j H''=>qd j Q env H'':=by
  unfold dD at hcall
  split at hcall
  ·exact ⟨false,by simp,hcall⟩
  ·rename_i l' wA
   rcases hcall with hcall | ⟨h1,hcall⟩
   ·exact ⟨false,by simp,hcall⟩
   ·exact ⟨true,fun _ id bm=>SN.opens l' wA id (by omega),hcall⟩
 have hry:aN M (L++[l]) (fs++[.func (.yield l) #[] #[]]) (first++[.nN H.length]):=
  (AL.mono (Mem.bT M) ⟨_,rfl⟩).append (.one (.nN l _ uV))
 obtain ⟨Oc,qX,bS,fin⟩:=sG (o:=(⟨none,.move f,0, "",#[],none⟩:Oper)) (K:=fun aH H'=>aH=env∧behind H.length H' fun j H''=>qd j Q env H'') (xs:=[]) (js:=[]) rfl (pass:=none) hry (sE.mono (Mem.bT M) ⟨[l],rfl⟩)
  (by simpa [aK,AV.ab] using hle) EG (fun d e=>by cases e) uN
 obtain ⟨vs,yf⟩:∃ vs:List Value,vs=fs++[.func (.yield l) #[] #[]]++cs:=⟨_,rfl⟩
 simp only [List.map_nil,aaV] at qX bS
 rw [← yf] at qX bS
 refine ⟨l,mark,w1,{ target:=.fn (.func g) cs.toArray,args:=fs.toArray++#[.func (.yield l) #[] #[]] },w1,g,vs.toArray,w1,he,?_,fun _ _=>trivial,?_,(fun h=>by cases h),?_⟩
 ·have ec:a.eval (.const (.func (.yield l) #[] #[]))=.func (.yield l) #[] #[]:=rfl
  simp [resolve,hu,Deferred.ofValue,ec]
 ·have e1:(fs.toArray++#[.func (.yield l) #[] #[]]++cs.toArray:Array Value)=vs.toArray:=by
   apply Array.ext';simp [yf]
  simp only [invoke]
  rw [e1]
  exact hcf _ _
 ·rcases hcall (dz A1 loose (H++[aa.loop .ready ⟨n,ps.toList,as,bd,an,lv,pl⟩ (ln n env)]) (L++[l]) Oc w1) M (L++[l]) w1 vs.toArray Oc (lj A1 loose _ _ Oc w1) (by simpa using qX) bS with ⟨_,hc⟩ | ⟨v,w',r,H',M',L',O',h1,_⟩
  ·have mB:CallsIn (wf ro) (0 - 1) P g vs.toArray w1 _:=callsIn_wide.2 hc
   refine CallsIn.mono mB fun e w' he=>?_
   obtain ⟨v,r,H',M',L',O',rfl,hK,mC,cF,WB⟩:=he
   obtain ⟨M2,L2,H2,cU,O2,⟨rfl,hb⟩,ua,Q6,SO⟩:=fin v r H' M' L' O' w' ⟨rfl,hK⟩ mC cF WB
   have oU:L2[H.length]?=some l:=gn SO uV
   have mr:L0 <+: L2:=hL.trans ((List.prefix_append L [l]).trans SO)
   unfold behind at hb
   split at hb
   ·rename_i lc es Fe
    obtain ⟨r,q1,q2,q3,q4,q5,q6⟩:=ua.st.obj _ _ l Fe oU
    obtain ⟨k1,k2⟩:=ua.st.oX (st':=.eT) (r':={ r with state:=.exhausted }) Fe oU (fun r2 sE=>by rw [q1] at sE;cases sE;exact ⟨rfl,rfl,rfl,rfl,rfl,trivial⟩)
    exact ⟨none,_,(run_endLoop q1 (by rw [q6.1];simp)).trans (congrArg (fun p=>Result.ok p _) q6.2),A1,M2,L2,_,cU,O2,Fc,hb,⟨k1,ua.size,ua.defers.ext k2⟩,ue.trans ((Q6.trans k2).le Fc),mr⟩
   ·rename_i c lc es Fe
    obtain ⟨r,q1,q2,q3,q4,q5,q6⟩:=ua.st.obj _ _ l Fe oU
    obtain ⟨k1,k2⟩:=ua.st.oX (st':=.eT) (r':={ r with state:=.exhausted }) Fe oU (fun r2 sE=>by rw [q1] at sE;cases sE;exact ⟨rfl,rfl,rfl,rfl,rfl,trivial⟩)
    refine ⟨some c,_,(run_endLoop q1 (by rw [q6.1];simp)).trans (congrArg (fun p=>Result.ok p _) q6.2),?_⟩
    unfold qd at hb
    split at hb
    ·rename_i e;cases e
    ·rename_i e;cases e
     exact wpIn_ret ⟨A1,M2,L2,_,cU,O2,Fc,hb,⟨k1,ua.size,ua.defers.ext k2⟩,ue.trans ((Q6.trans k2).le Fc),mr⟩
    ·rename_i e;cases e
     exact wpIn_exit ⟨A1,M2,L2,_,cU,O2,Fc,hb,⟨k1,ua.size,ua.defers.ext k2⟩,ue.trans ((Q6.trans k2).le Fc),mr⟩
    ·exact hb.elim
   ·exact hb.elim
  ·rw [hcf] at h1;cases h1
theorem sound {L0:List Nat} (hdraw:∀ A,fM lo L0.length A→za P ro lo A n L0) {an:B9} {lv:lF} {pl:lG}:∀ (c:Code) (ir:IR),comp P an lv pl n c=some ir→∀ {A:Perm} {M:Mem} {L:List Nat} {w:World} {H:List aa} {env:Env} {O:Pos→Option Nat} {a:Act} {Q:Exit→Env→List aa→Prop},
 fM lo L0.length A→Own ro w→mn ⟨P,lo⟩ L0.length ir env H Q→Fr A n M L w H env O a→L0 <+: L→c.wpIn (wf ro) 0 P (E9 A n M L0 w Q) a w:=by
 intro c
 induction c with
 | skip=>
   intro ir hc A M L w H env O a Q hA xZ h hf hL
   simp only [comp] at hc;cases hc
   exact wpIn_skip ⟨A,M,L,H,env,O,.refl A,h,hf,Ext.refl A M w,hL⟩
 | exit id=>
   intro ir hc A M L w H env O a Q hA xZ h hf hL
   simp only [comp] at hc;cases hc
   exact wpIn_exit ⟨A,M,L,H,env,O,.refl A,h,hf,Ext.refl A M w,hL⟩
 | ret=>
   intro ir hc A M L w H env O a Q hA xZ h hf hL
   simp only [comp] at hc;cases hc
   exact wpIn_ret ⟨A,M,L,H,env,O,.refl A,h,hf,Ext.refl A M w,hL⟩
 | region id ops draw=>
   intro ir hc A M L w H env O a Q hA xZ h hf hL
   cases draw with
   | true=>
     simp only [comp] at hc
     split at hc <;> try cases hc
     rename_i il yc
     split at hc <;> cases hc
     rename_i hm
     exact hdraw A hA hm.1 hm.2 yc h hf (Ext.refl A M w) hL
   | false=>
     simp only [comp] at hc
     obtain ⟨il,yc,rfl⟩:=tM.1 hc
     simp only [mn] at h
     refine wpIn_region_list (qe hA.opens _ _ _ _ _ yc _ hf h ?_)
     rintro a' w' ⟨M',L',H',aH,O',h1,h2,h3,h4⟩
     obtain ⟨O'',h5⟩:=h2.weaken (y8 (lv.at_ id) aH)
     exact ⟨A,M',L',H',_,O'',.refl A,h1,h5,h3,hL.trans h4⟩
 | seq x y ihx ihy=>
   intro ir hc A M L w H env O a Q hA xZ h hf hL
   simp only [comp] at hc
   split at hc <;> cases hc
   rename_i x' y' hx hy
   simp only [mn] at h
   refine wpIn_seq (Go.wpIn_mono (ihx _ hx hA xZ h hf hL) ?_)
   rintro e a' w' ⟨A',M',L',H',aH,O',hl,h1,h2,h3,h4⟩
   cases e with
   | normal=>exact Go.wpIn_mono (ihy _ hy (hA.le hl) (xZ.ext h3) h1 h2 h4) fun e a w hp=>hp.trans hl h3
   | _=>exact ⟨A',M',L',H',aH,O',hl,h1,h2,h3,h4⟩
 | cond x c d ihc ihd=>
   intro ir hc A M L w H env O a Q hA xZ h hf hL
   simp only [comp] at hc
   split at hc <;> cases hc
   rename_i i c' d' hi IC hd'
   simp only [mn] at h
   obtain ⟨q,hq,h⟩:=oW h
   have hr:=hf.eval hi
   rw [hq] at hr
   generalize hu:a.eval x=u at hr
   cases hr
   refine wpIn_cond_split hu (fun e=>ihc _ IC hA xZ (h.1 e) hf hL) (fun e=>ihd _ hd' hA xZ (h.2 e) hf hL)
 | block id c ih=>
   intro ir hc A M L w H env O a Q hA xZ h hf hL
   simp only [comp] at hc
   obtain ⟨c',IC,rfl⟩:=tM.1 hc
   simp only [mn] at h
   refine wpIn_block (Go.wpIn_mono (ih _ IC hA xZ h hf hL) ?_)
   rintro e a' w' ⟨A',M',L',H',aH,O',hl,h1,h2,h3,h4⟩
   cases e with
   | exit id'=>
     simp only [Exit.inBlock]
     simp only at h1
     split at h1
     ·rename_i e;rw [if_pos e];exact ⟨A',M',L',H',aH,O',hl,h1,h2,h3,h4⟩
     ·rename_i e;rw [if_neg e];exact ⟨A',M',L',H',aH,O',hl,h1,h2,h3,h4⟩
   | _=>exact ⟨A',M',L',H',aH,O',hl,h1,h2,h3,h4⟩
 | loop c ih=>
   intro ir hc A M L w H env O a Q hA xZ h hf hL
   simp only [comp] at hc
   obtain ⟨c',IC,rfl⟩:=tM.1 hc
   simp only [mn] at h
   obtain ⟨ι,I,se,sh,μ,⟨i0,vq,hs0⟩,hround⟩:=h
   obtain ⟨L',O',pC,WB⟩:=hf.sle hA hL hs0
   refine AP (fun i a' w'=>I i∧∃ A' M' L' O',A'.Le A∧Fr A' n M' L' w' (sh i) (se i) O' a'∧Ext A M w M' w'∧L0 <+: L') μ ?_ i0 ⟨vq,A,M,L',O',.refl A,pC,Ext.refl A M w,WB⟩
   rintro i a1 w1 ⟨hi,A1,M1,L1,O1,uV,EG,ue,Q7⟩
   refine Go.wpIn_mono (ih _ IC (hA.le uV) (xZ.ext ue) (hround i hi) EG Q7) ?_
   rintro e a' w' ⟨A',M',L',H',aH,O',hl,h1,h2,h3,h4⟩
   cases e with
   | normal=>
     obtain ⟨j,hj,aX,hs⟩:=h1
     obtain ⟨L2,O2,ua,SO⟩:=h2.sle ((hA.le uV).le hl) h4 hs
     exact ⟨j,⟨hj,A',M',L2,O2,hl.trans uV,ua,ue.trans (h3.le uV),SO⟩,aX⟩
   | _=>exact ⟨A',M',L',H',aH,O',hl.trans uV,h1,h2,ue.trans (h3.le uV),h4⟩
 | rangeFunc f ps as bd=>
   intro ir hc A M L w H env O a Q hA xZ h hf hL
   simp only [comp] at hc
   obtain ⟨i,hi,rfl⟩:=tM.1 hc
   exact CK hA hi xZ h hf hL
 | _=>
   intro ir hc A M L w H env O a Q hA xZ h
   simp only [comp] at hc
   cases hc
   exact h.elim
end
end Go.aI
end
section
namespace Go.aI
open Go
section
variable {φ ψ:AV→Prop} (hm:∀ z,φ z→ψ z)
include hm
theorem sK {op:BinOp} {x y:AV} (h:dh op x y φ):dh op x y ψ:=by
 unfold dh at *
 split at h <;> (try exact h.elim)
 ·obtain ⟨h0,h⟩:=h
  refine ⟨h0,?_⟩
  split at h <;> first | exact hm _ h | exact ⟨h.1,hm _ h.2⟩ | exact h.elim
 ·split at h <;> first | exact hm _ h | exact ⟨h.1,hm _ h.2⟩ | exact h.elim
theorem n9 {op:BinOp} {x y:AV} (h:dX op x y φ):dX op x y ψ:=by
 unfold dX at *
 split at h <;> (try exact h.elim)
 obtain ⟨h0,h⟩:=h
 refine ⟨h0,?_⟩
 split at h <;> first | exact hm _ h | exact h.elim
theorem mH {neq:Bool} {x y:AV} (h:c9 neq x y φ):c9 neq x y ψ:=by
 unfold c9 at *
 split at h <;> first | exact hm _ h | exact h.elim
theorem uf {kd:Nat} {neq:Bool} {x:AV} (h:dk kd neq x φ):dk kd neq x ψ:=by
 unfold dk at *
 split at h
 ·exact hm _ h
 ·split at h
  ·exact ⟨hm _ h.1,hm _ h.2⟩
  ·exact h.elim
theorem wB {op:UnOp} {x:AV} (h:As op x φ):As op x ψ:=by
 unfold As at *
 split at h <;> first | exact hm _ h | exact h.elim
theorem kr {sz:Option Nat} {x:AV} {H:List aa} (h:aU sz x H φ):aU sz x H ψ:=by
 unfold aU at *
 split at h <;> (try exact h.elim) <;> (split at h <;> (try exact h.elim)) <;> first | exact ⟨h.1,hm _ h.2⟩ | (split at h <;> exact ⟨h.1,hm _ h.2⟩)
theorem oa {off:Nat} {sz:Option Nat} {x:AV} (h:ff off sz x φ):ff off sz x ψ:=by
 unfold ff apart at *
 split at h <;> (try exact h.elim)
 split at h <;> first | exact ⟨h.1,hm _ h.2⟩ | exact ⟨h.1,h.2.1,hm _ h.2.2⟩
theorem jB {off:Nat} {sz:Option Nat} {x:AV} (h:al off sz x φ):al off sz x ψ:=by
 unfold al apart at *
 split at h <;> (try exact h.elim)
 ·exact hm _ h
 ·split at h <;> first | exact ⟨h.1,hm _ h.2⟩ | exact ⟨h.1,h.2.1,hm _ h.2.2⟩
theorem jC {esz:Nat} {x i:AV} (h:ax esz x i φ):ax esz x i ψ:=by
 unfold ax at *
 split at h <;> first | exact ⟨h.1,h.2.1,hm _ h.2.2⟩ | exact h.elim
theorem ku {x i:AV} (h:bN x i φ):bN x i ψ:=by
 unfold bN at *
 split at h <;> first | exact ⟨h.1,h.2.1,hm _ h.2.2⟩ | exact h.elim
theorem kv {n:Nat} {x i:AV} (h:bY n x i φ):bY n x i ψ:=by
 unfold bY at *
 split at h <;> first | exact ⟨h.1,h.2.1,h.2.2.1,hm _ h.2.2.2⟩ | exact h.elim
theorem sL {x:AV} {H:List aa} (h:eU x H φ):eU x H ψ:=by
 unfold eU at *
 split at h <;> (try exact h.elim) <;> (try exact hm _ h)
 ·exact fun hl=>hm _ (h hl)
 ·split at h <;> first | exact hm _ h | exact h.elim
theorem lq {x:AV} {i:Nat} (h:bK x i φ):bK x i ψ:=by
 unfold bK at *
 split at h <;> first | exact ⟨h.1,hm _ h.2⟩ | exact h.elim
theorem kw {x:AV} (h:bZ x φ):bZ x ψ:=by
 unfold bZ at *
 split at h <;> first | exact hm _ h | exact h.elim
theorem lr {k:IntKind} {x:AV} (h:cD k x φ):cD k x ψ:=by
 unfold cD at *
 split at h <;> first | exact hm _ h | exact h.elim
theorem wC {big:Bool} {x y:AV} (h:ya big x y φ):ya big x y ψ:=by
 unfold ya at *
 split at h <;> first | exact hm _ h | exact h.elim
theorem pL {x:AV} (h:fU x φ):fU x ψ:=by
 unfold fU at *
 split at h <;> first | exact hm _ h | exact h.elim
theorem pM {own:Nat} {x:AV} (h:fo own x φ):fo own x ψ:=by
 unfold fo at *
 split at h <;> first | exact ⟨h.1,hm _ h.2⟩ | exact h.elim
theorem ug {x:AV} (h:kh x φ):kh x ψ:=by
 unfold kh at *
 split at h <;> first | exact hm _ h | exact ⟨_,h.choose_spec.1,hm _ h.choose_spec.2⟩ | (obtain ⟨l,h1,h2⟩:=h;exact ⟨l,h1,hm _ h2⟩) | exact ⟨h.1,hm _ h.2⟩ | exact h.elim
theorem uh {esz bytes:Nat} {n:AV} (h:jy esz bytes n φ):jy esz bytes n ψ:=by
 unfold jy at *
 split at h <;> first | exact ⟨h.1,h.2.1,hm _ h.2.2⟩ | exact h.elim
theorem mI {kd:Nat} {z m k:AV} {ok:Bool} {H:List aa} (h:cu kd z m k ok H φ):cu kd z m k ok H ψ:=by
 unfold cu at *
 split at h <;> (try exact h.elim) <;> first | exact hm _ h | exact ⟨h.1,hm _ h.2⟩ | (split at h <;> (try exact h.elim) <;> first | exact hm _ h | exact ⟨h.1,hm _ h.2⟩ | (split at h <;> (try exact h.elim) <;> first | exact hm _ h | exact ⟨h.1,hm _ h.2⟩))
end
theorem eS {x:Option AV} {d:Nat} {φ ψ:Nat→Prop} (hm:∀ k,φ k→ψ k) (h:dR x d φ):dR x d ψ:=by
 unfold dR at *
 split at h <;> first | exact hm _ h | exact ⟨h.1,hm _ h.2⟩ | exact h.elim
theorem ui {esz:Nat} {x:AV} {lo hi mx:Option AV} {φ ψ:AV→Prop} (hm:∀ z,φ z→ψ z) (h:fm esz x lo hi mx φ):fm esz x lo hi mx ψ:=by
 unfold fm at *
 split at h <;> (try exact h.elim)
 refine eS (fun k h=>eS (fun l h=>⟨h.1,h.2.1,?_⟩) h) h
 obtain ⟨_,_,h⟩:=h
 split at h
 ·exact hm _ h
 ·exact ⟨h.1,eS (fun m h=>⟨h.1,h.2.1,hm _ h.2.2⟩) h.2⟩
theorem mJ {esz:Nat} {x:AV} {lo hi mx:Option AV} {φ ψ:AV→Prop} (hm:∀ z,φ z→ψ z) (h:bA esz x lo hi mx φ):bA esz x lo hi mx ψ:=by
 unfold bA ic oS at *
 split at h
 ·split at h
  ·exact eS (fun k h=>eS (fun l h=>⟨h.1,h.2.1,hm _ h.2.2⟩) h) h
  ·exact ⟨h.1,eS (fun m h=>eS (fun k h=>eS (fun l h=>⟨h.1,h.2.1,h.2.2.1,hm _ h.2.2.2⟩) h) h) h.2⟩
 ·exact ⟨h.1,ui hm h.2⟩
theorem kx {x:AV} {lo hi:Option AV} {φ ψ:AV→Prop} (hm:∀ z,φ z→ψ z) (h:cn x lo hi φ):cn x lo hi ψ:=by
 unfold cn at *
 split at h <;> (try exact h.elim)
 exact eS (fun k h=>eS (fun l h=>⟨h.1,h.2.1,hm _ h.2.2⟩) h) h
theorem mK {φ ψ:List AV→Prop} (hm:∀ z,φ z→ψ z):∀ {ps:List (Nat×Nat×AV)} {zs:List AV},gZ zs ps φ→gZ zs ps ψ
 | [],zs,h=>hm _ h
 | (off,sz,x)::r,zs,h=>⟨h.1,h.2.1,h.2.2.1,mK hm h.2.2.2⟩
theorem iq {esz:Nat} {φ ψ:List AV→Prop} (hm:∀ z,φ z→ψ z):∀ {ps:List (Nat×AV)} {zs:List AV},bu zs esz ps φ→bu zs esz ps ψ
 | [],zs,h=>hm _ h
 | (i,x)::r,zs,h=>⟨h.1,h.2.1,h.2.2.1,iq hm h.2.2.2⟩
def SP (τ:Nat→AV) (dst:Option Nat) (x:AV):Nat→AV:=match dst with | some d=>fJ τ d x | none=>τ
theorem kP (env:Env) (dst:Option Nat) (x:AV):get (put dst x env)=SP (get env) dst x:=by cases dst <;> rfl
theorem oc {lo:Option IX} {env:Env} {ρ:IX→AV} (h:∀ i∈lo.toList,aq env i=ρ i):lo.map ρ=gE env lo:=by
 cases lo with
 | none=>rfl
 | some i=>simp [gE,h i (by simp)]
theorem oh {is:List IX} {env:Env} {ρ:IX→AV} (h:∀ i∈is,aq env i=ρ i) (g:AV→AV):(is.map fun x=>g (aq env x))=is.map fun x=>g (ρ x):=by
 apply aa5
 intro i hi
 rw [h i hi]
theorem ol (env:Env):∀ (is:List IX) (j:Nat),aK env none j is=is.map fun x=>(aq env x).ab
 | [],_=>rfl
 | .t s::r,j=>by simp [aK,ol env r,aq]
 | .c v::r,j=>by simp [aK,ol env r,aq]
theorem CL {P:Px} {o:cb} {dst:Option Nat} {ρ:IX→AV} {env:Env} {H:List aa} {x:AV} (h:df P o ρ H x) (hρ:∀ i∈o.all,aq env i=ρ i) :
 bB P o dst env H fun e h=>h=H∧get e=get (put dst x env):=by
 have key:∀ z,z=x→(H=H∧get (put dst z env)=get (put dst x env)):=fun z e=>⟨rfl,e ▸ rfl⟩
 cases o with
 | set i take=>
   cases take with
   | true=>exact h.elim
   | false=>
     simp only [df,cb.all,aav,forall_eq] at h hρ
     rw [← hρ] at h
     unfold bB
     cases dst with
     | none=>exact ⟨rfl,rfl⟩
     | some d=>
       subst h
       refine ⟨rfl,?_⟩
       cases i <;> rfl
 | pick c a b=>
   simp only [df,cb.all,aan,aaH,or_false,forall_eq_or_imp,forall_eq] at h hρ
   obtain ⟨h1,h2,h3⟩:=hρ
   rw [← h1,← h2,← h3] at h
   obtain ⟨q,hq,h⟩:=oW h
   show fe (aq env c) _
   rw [hq]
   exact ⟨fun e=>key _ (h.1 e),fun e=>key _ (h.2 e)⟩
 | bin op i j=>
   simp only [df,cb.all,aan,aaH,or_false,forall_eq_or_imp,forall_eq] at h hρ
   obtain ⟨h1,h2⟩:=hρ
   rw [← h1,← h2] at h
   exact sK key h
 | shift op i j=>
   simp only [df,cb.all,aan,aaH,or_false,forall_eq_or_imp,forall_eq] at h hρ
   obtain ⟨h1,h2⟩:=hρ
   rw [← h1,← h2] at h
   exact n9 key h
 | iR neq i j=>
   simp only [df,cb.all,aan,aaH,or_false,forall_eq_or_imp,forall_eq] at h hρ
   obtain ⟨h1,h2⟩:=hρ
   rw [← h1,← h2] at h
   exact mH key h
 | mx big i j=>
   simp only [df,cb.all,aan,aaH,or_false,forall_eq_or_imp,forall_eq] at h hρ
   obtain ⟨h1,h2⟩:=hρ
   rw [← h1,← h2] at h
   exact wC key h
 | indexAddr esz i j=>
   simp only [df,cb.all,aan,aaH,or_false,forall_eq_or_imp,forall_eq] at h hρ
   obtain ⟨h1,h2⟩:=hρ
   rw [← h1,← h2] at h
   exact ⟨h.1,jC key h.2⟩
 | di i j=>
   simp only [df,cb.all,aan,aaH,or_false,forall_eq_or_imp,forall_eq] at h hρ
   obtain ⟨h1,h2⟩:=hρ
   rw [← h1,← h2] at h
   exact ku key h
 | dV n i j=>
   simp only [df,cb.all,aan,aaH,or_false,forall_eq_or_imp,forall_eq] at h hρ
   obtain ⟨h1,h2⟩:=hρ
   rw [← h1,← h2] at h
   exact kv key h
 | lookup kd z i j ok=>
   simp only [df,cb.all,aan,aaH,or_false,forall_eq_or_imp,forall_eq] at h hρ
   obtain ⟨h1,h2⟩:=hρ
   rw [← h1,← h2] at h
   exact mI key h
 | jI kd neq i=>
   simp only [df,cb.all,aav,forall_eq] at h hρ
   rw [← hρ] at h
   exact uf key h
 | un op i=>
   simp only [df,cb.all,aav,forall_eq] at h hρ
   rw [← hρ] at h
   exact wB key h
 | ms i=>
   simp only [df,cb.all,aav,forall_eq] at h hρ
   rw [← hρ] at h
   exact ⟨h.1,key _ h.2⟩
 | load sz i=>
   simp only [df,cb.all,aav,forall_eq] at h hρ
   rw [← hρ] at h
   exact kr key h
 | nilCheck i=>
   simp only [df,cb.all,aav,forall_eq] at h hρ
   rw [← hρ] at h
   exact kw key h
 | fieldAddr off sz i=>
   simp only [df,cb.all,aav,forall_eq] at h hρ
   rw [← hρ] at h
   exact jB key h
 | field off sz i=>
   simp only [df,cb.all,aav,forall_eq] at h hρ
   rw [← hρ] at h
   exact oa key h
 | len kd i=>
   simp only [df,cb.all,aav,forall_eq] at h hρ
   rw [← hρ] at h
   exact ⟨h.1,sL key h.2⟩
 | extract i k=>
   simp only [df,cb.all,aav,forall_eq] at h hρ
   rw [← hρ] at h
   exact lq key h
 | eX k i=>
   simp only [df,cb.all,aav,forall_eq] at h hρ
   rw [← hρ] at h
   exact lr key h
 | gY i=>
   simp only [df,cb.all,aav,forall_eq] at h hρ
   rw [← hρ] at h
   exact pL key h
 | bytesOf i=>
   simp only [df,cb.all,aav,forall_eq] at h hρ
   rw [← hρ] at h
   exact pM key h
 | nR esz bytes i=>
   simp only [df,cb.all,aav,forall_eq] at h hρ
   rw [← hρ] at h
   exact uh key h
 | strOf i=>
   simp only [df,cb.all,aav,forall_eq] at h hρ
   rw [← hρ] at h
   exact ug key h
 | build z ps=>
   simp only [df,cb.all] at h hρ
   have:(ps.map fun q=>(q.1,q.2.1,aq env q.2.2))=ps.map fun q=>(q.1,q.2.1,ρ q.2.2):=
    aa5 fun q hq=>by rw [hρ _ (aaq.2 ⟨q,hq,rfl⟩)]
   show cw z.cells (ps.map fun q=>(q.1,q.2.1,aq env q.2.2)) (fun v=>H=H∧get (put dst v env)=get (put dst x env))
   rw [this]
   exact mK (fun v h=>key _ h) h
 | buildSlice own esz z len ps=>
   simp only [df,cb.all] at h hρ
   have:(ps.map fun q=>(q.1,aq env q.2))=ps.map fun q=>(q.1,ρ q.2):=
    aa5 fun q hq=>by rw [hρ _ (aaq.2 ⟨q,hq,rfl⟩)]
   show bu _ _ (ps.map fun q=>(q.1,aq env q.2)) _
   rw [this]
   exact iq (fun v h=>key (.ap own v) h) h
 | slice esz i lo hi mx=>
   simp only [df,cb.all,aan,aaO,forall_eq_or_imp] at h hρ
   obtain ⟨h1,h2⟩:=hρ
   rw [← h1,oc (fun i hi=>h2 i (.inl (.inl hi))),oc (fun i hi=>h2 i (.inl (.inr hi))),oc (fun i hi=>h2 i (.inr hi))] at h
   exact mJ key h
 | dW i lo hi=>
   simp only [df,cb.all,aan,aaO,forall_eq_or_imp] at h hρ
   obtain ⟨h1,h2⟩:=hρ
   rw [← h1,oc (fun i hi=>h2 i (.inl hi)),oc (fun i hi=>h2 i (.inr hi))] at h
   exact kx key h
 | fn f first cap=>
   simp only [df,cb.all,aaO] at h hρ
   refine key _ ?_
   rw [oh (fun i hi=>hρ i (.inl hi)) AV.ab,oh (fun i hi=>hρ i (.inr hi)) AV.ab]
   exact h
 | call f args pass=>
   cases pass with
   | some _=>exact h.elim
   | none=>
     simp only [df,cb.all,aan,forall_eq_or_imp] at h hρ
     obtain ⟨h1,h2⟩:=hρ
     rw [← h1] at h
     split at h <;> try exact h.elim
     rename_i g first cap hg
     show pK P (aq env f) args none env H (fun r aH H'=>H'=H∧get (put dst r aH)=get (put dst x env))
     rw [hg]
     obtain ⟨bU,hl,hcall⟩:=h
     refine ⟨bU,?_,dD.of <| hcall.mono ?_⟩
     ·rw [ol,oh h2 AV.ab];exact hl
     ·rintro r H' ⟨hr,rfl⟩
      exact key r hr
 | _=>exact h.elim
end Go.aI
end
section
namespace Go.aI
open Go
theorem CM {m:Nat} {p x:AV} {H:List aa} {K K':List aa→Prop} (hm:∀ H',K H'→K' H') (h:iT m p x H K):iT m p x H K':=by
 unfold iT at *
 split at h <;> (try exact h.elim)
 split at h <;> (try exact h.elim)
 exact ⟨h.1,h.2.1,h.2.2.1,h.2.2.2.1,h.2.2.2.2.1,hm _ h.2.2.2.2.2⟩
theorem yo {p x:AV} {H:List aa} {K K':List aa→Prop} (hm:∀ H',K H'→K' H') (h:dY p x H K):dY p x H K':=by
 unfold dY at *
 split at h <;> (try exact h.elim)
 split at h <;> (try exact h.elim)
 exact ⟨h.1,h.2.1,h.2.2.1,hm _ h.2.2.2⟩
theorem AQ {esz bytes:Nat} {s x:AV} {φ ψ:List AV→Prop} (hm:∀ z,φ z→ψ z) (h:bE esz bytes s x φ):bE esz bytes s x ψ:=by
 unfold bE at *
 split at h <;> (try exact h.elim)
 exact ⟨h.1,h.2.1,hm _ h.2.2⟩
theorem yp {esz bytes:Nat} {z s x:AV} {H:List aa} {K K':AV→List aa→Prop} (hm:∀ v H',K v H'→K' v H') (h:cS esz bytes z s x H K):cS esz bytes z s x H K':=by
 unfold cS at *
 cases hr:dn x with
 | none=>
   rw [hr] at h
   simp only at h ⊢
   split at h <;> try exact h.elim
   rename_i id off len cap n ys wc
   cases hi:H[id]? with
   | none=>rw [hi] at h;exact h.elim
   | some ob=>
     rw [hi] at h
     cases ob with
     | cells es=>
       obtain ⟨a,b,c,d,e,f⟩:=h
       exact ⟨a,b,c,d,e,hm _ _ f⟩
     | _=>exact h.elim
 | some ys=>
   rw [hr] at h
   obtain ⟨h1,h⟩:=h
   refine ⟨h1,?_⟩
   cases s with
   | ag=>
     obtain ⟨a,b,c⟩:=h
     exact ⟨a,fun e=>hm _ _ (b e),fun e cap h1 h2=>⟨(c e cap h1 h2).1,hm _ _ (c e cap h1 h2).2⟩⟩
   | nL=>
     obtain ⟨a,b,c⟩:=h
     exact ⟨a,fun e=>hm _ _ (b e),fun e cap h1 h2=>⟨(c e cap h1 h2).1,hm _ _ (c e cap h1 h2).2⟩⟩
   | aW id off len cap=>
     simp only at h ⊢
     cases hi:H[id]? with
     | none=>rw [hi] at h;exact h.elim
     | some ob=>
       rw [hi] at h
       cases ob with
       | cells es=>
         obtain ⟨a,b,c,d,f⟩:=h
         exact ⟨a,b,c,fun e=>⟨(d e).1,hm _ _ (d e).2⟩,fun e dC h1 h2=>⟨(f e dC h1 h2).1,hm _ _ (f e dC h1 h2).2⟩⟩
       | _=>exact h.elim
   | _=>exact h.elim
theorem yq {lm:Nat→Nat} {esz bytes:Nat} {z s x:AV} {H:List aa} {K K':AV→List aa→Prop} (hm:∀ v H',K v H'→K' v H') (h:jh lm esz bytes z s x H K):jh lm esz bytes z s x H K':=by
 unfold jh at *
 cases hr:dn x with
 | none=>
   rw [hr] at h
   simp only at h ⊢
   split at h <;> try exact h.elim
   rename_i id off len cap n ys wc
   cases hi:H[id]? with
   | none=>rw [hi] at h;exact h.elim
   | some ob=>
     rw [hi] at h
     cases ob with
     | cells es=>
       obtain ⟨a,b,c,d,e,f⟩:=h
       exact ⟨a,b,c,d,e,hm _ _ f⟩
     | _=>exact h.elim
 | some ys=>
   rw [hr] at h
   obtain ⟨h1,h⟩:=h
   refine ⟨h1,?_⟩
   cases s with
   | ag=>
     obtain ⟨a,b,c⟩:=h
     exact ⟨a,fun e=>hm _ _ (b e),fun e cap h1 h2=>⟨(c e cap h1 h2).1,hm _ _ (c e cap h1 h2).2⟩⟩
   | nL=>
     obtain ⟨a,b,c⟩:=h
     exact ⟨a,fun e=>hm _ _ (b e),fun e cap h1 h2=>⟨(c e cap h1 h2).1,hm _ _ (c e cap h1 h2).2⟩⟩
   | aW id off len cap=>
     simp only at h ⊢
     cases hi:H[id]? with
     | none=>rw [hi] at h;exact h.elim
     | some ob=>
       rw [hi] at h
       cases ob with
       | cells es=>
         obtain ⟨a,b,c,d,f⟩:=h
         exact ⟨a,b,c,fun e=>⟨(d e).1,hm _ _ (d e).2⟩,fun e dC h1 h2=>⟨(f e dC h1 h2).1,hm _ _ (f e dC h1 h2).2⟩⟩
       | _=>exact h.elim
   | _=>exact h.elim
theorem yr {lo esz bytes:Nat} {z s x:AV} {H:List aa} {K K':AV→List aa→Prop} (hm:∀ v H',K v H'→K' v H') (h:fp lo esz bytes z s x H K):fp lo esz bytes z s x H K':=⟨h.1,yq hm h.2⟩
theorem AR {esz:Nat} {z x:AV} {H:List aa} {K K':List aa→Prop} (hm:∀ H',K H'→K' H') (h:jb esz z x H K):jb esz z x H K':=by
 unfold jb at *
 split at h <;> (try exact h.elim)
 split at h <;> (try exact h.elim)
 exact ⟨h.1,h.2.1,h.2.2.1,hm _ h.2.2.2⟩
theorem CN {esz bytes:Nat} {z n:AV} {H:List aa} {K K':AV→List aa→Prop} (hm:∀ v H',K v H'→K' v H') (h:fj esz bytes z n H K):fj esz bytes z n H K':=by
 unfold fj at *
 split at h <;> (try exact h.elim)
 exact ⟨h.1,h.2.1,h.2.2.1,hm _ _ h.2.2.2⟩
theorem AS {kd:Nat} {m k x:AV} {H:List aa} {K K':List aa→Prop} (hm:∀ H',K H'→K' H') (h:fD kd m k x H K):fD kd m k x H K':=by
 unfold fD at *
 split at h <;> (try exact h.elim)
 split at h <;> (try exact h.elim)
 refine ⟨h.1,h.2.1,h.2.2.1,?_⟩
 obtain ⟨_,_,_,h⟩:=h
 split at h
 ·exact hm _ h
 ·exact ⟨h.1,hm _ h.2⟩
 ·exact h.elim
theorem Ff {esz:Nat} {d s:AV} {H:List aa} {K K':AV→List aa→Prop} (hm:∀ v H',K v H'→K' v H') (h:kj esz d s H K):kj esz d s H K':=by
 unfold kj at *
 split at h <;> (try exact h.elim)
 split at h <;> (try exact h.elim)
 exact ⟨h.1,h.2.1,h.2.2.1,hm _ _ h.2.2.2⟩
theorem kQ {esz:Nat} {x:AV} {H:List aa} {K K':AV→List aa→Prop} (hm:∀ v H',K v H'→K' v H') (h:dN esz x H K):dN esz x H K':=by
 unfold dN at *
 split at h
 ·split at h <;> (try exact h.elim)
  exact ⟨h.1,h.2.1,h.2.2.1,h.2.2.2.1,hm _ _ h.2.2.2.2⟩
 ·exact h.elim
 ·exact hm _ _ h
 ·exact hm _ _ h
theorem uj {esz:Nat}:∀ {xs:List AV} {H:List aa} {K K':List AV→List aa→Prop} (hm:∀ v H',K v H'→K' v H') (h:km esz xs H K),km esz xs H K'
 | [],H,K,K',hm,h=>hm _ _ h
 | x::r,H,K,K',hm,h=>kQ (fun v H' hk=>uj (fun vs H'' h2=>hm _ _ h2) hk) h
theorem ID {e id c:Nat} {H:List aa} {K K':List aa→Prop} (hm:∀ H',K H'→K' H') (h:AG e id c H K):AG e id c H K':=by
 unfold AG at *
 split at h <;> (try exact h.elim)
 split at h <;> (try exact h.elim)
 ·exact kQ (fun v H' hk=>⟨hk.1,hk.2.1,hm _ hk.2.2⟩) h
 ·exact hm _ h
theorem wD {esz:Nat} {x:AV} {H:List aa} {K K':AV→List aa→Prop} (hm:∀ v H',K v H'→K' v H') (h:fL esz x H K):fL esz x H K':=by
 unfold fL at *
 split at h
 ·exact uj (fun v H' hk=>hm _ _ hk) h
 ·split at h
  ·rename_i hc;rw [if_pos hc];exact ID (hm _) h
  ·rename_i hc;rw [if_neg hc];exact kQ hm h
 ·exact kQ hm h
theorem AT {l m:Nat} {p x:AV} {H:List aa} {K K':List aa→Prop} (hm:∀ H',K H'→K' H') (h:hZ l m p x H K):hZ l m p x H K':=by
 unfold hZ at *
 split at h <;> (try exact h.elim)
 split at h <;> (try exact h.elim)
 exact ⟨h.1,h.2.1,h.2.2.1,h.2.2.2.1,h.2.2.2.2.1,h.2.2.2.2.2.1,hm _ h.2.2.2.2.2.2⟩
theorem om {env1 cU:Env} {pass:Option Nat}:∀ {is:List IX} {j:Nat},(∀ i∈is,aq cU i=aq env1 i)→aK cU pass j is=aK env1 pass j is
 | [],_,_=>rfl
 | .t s::r,j,h=>by
   have h1:get cU s=get env1 s:=h (.t s) (by simp)
   simp only [aK,h1,om (fun i hi=>h i (aay _ hi))]
 | .c v::r,j,h=>by
   simp only [aK,om (fun i hi=>h i (aay _ hi))]
theorem gM {lo:Option IX} {env1 cU:Env} (h:∀ i∈lo.toList,aq cU i=aq env1 i):gE cU lo=gE env1 lo:=by
 cases lo with
 | none=>rfl
 | some i=>simp [gE,h i (by simp)]
theorem oY {P:Px} {o:cb} {dst:Option Nat} {env1 cU:Env} {H:List aa} {K1 K2:Env→List aa→Prop} (hl:∀ i∈o.all,aq cU i=aq env1 i) (h:bB P o dst env1 H K1)
 (hK:∀ (mods:List (Nat×AV)) H',(∀ p∈mods,dst=some p.1∨p.1∈o.kill)→(o.SK=false→H'=H)→(o.y7=true→∃ e,H'=H++e)→K1 (mods++env1) H'→K2 (mods++cU) H'):bB P o dst cU H K2:=by
 have kput:∀ z H',(o.SK=false→H'=H)→(o.y7=true→∃ e,H'=H++e)→K1 (put dst z env1) H'→K2 (put dst z cU) H':=by
  intro z H' hc hg
  cases hd:dst with
  | none=>exact hK [] H' (by simp) hc hg
  | some d=>exact hK [(d,z)] H' (by simp [hd]) hc hg
 have kput0:∀ z,K1 (put dst z env1) H→K2 (put dst z cU) H:=fun z=>kput z H (fun _=>rfl) (fun _=>⟨[],by simp⟩)
 have kenv:∀ H',(o.SK=false→H'=H)→(o.y7=true→∃ e,H'=H++e)→K1 env1 H'→K2 cU H':=fun H' hc hg=>hK [] H' (by simp) hc hg
 cases o with
 | set i take=>
   simp only [cb.all,aav,forall_eq] at hl
   simp only [bB] at h ⊢
   cases dst with
   | none=>exact kenv H (fun _=>rfl) (fun _=>⟨[],by simp⟩) h
   | some d=>
     simp only at h ⊢
     cases i with
     | c v=>cases take <;> exact kput0 _ h
     | t s=>
       have hs:get cU s=get env1 s:=hl
       cases take with
       | false=>
         have e1:uL env1 d (.t s) false=put (some d) (get env1 s).ab env1:=rfl
         have e2:uL cU d (.t s) false=put (some d) (get env1 s).ab cU:=by simp only [uL,put,aq,hs]
         rw [e2];rw [e1] at h
         exact kput0 _ h
       | true=>
         have e1:uL env1 d (.t s) true=[(d,get env1 s),(s,(get env1 s).ab)]++env1:=rfl
         have e2:uL cU d (.t s) true=[(d,get env1 s),(s,(get env1 s).ab)]++cU:=by simp only [uL,hs];rfl
         rw [e2];rw [e1] at h
         exact hK _ H (by simp [cb.kill]) (fun _=>rfl) (fun _=>⟨[],by simp⟩) h
 | pick c a b=>
   simp only [cb.all,aan,aaH,or_false,forall_eq_or_imp,forall_eq] at hl
   obtain ⟨h1,h2,h3⟩:=hl
   simp only [bB] at h ⊢
   rw [h1,h2,h3]
   obtain ⟨q,hq,h⟩:=oW h
   rw [hq]
   exact ⟨fun e=>kput0 _ (h.1 e),fun e=>kput0 _ (h.2 e)⟩
 | bin op i j=>
   simp only [cb.all,aan,aaH,or_false,forall_eq_or_imp,forall_eq] at hl
   simp only [bB] at h ⊢
   rw [hl.1,hl.2]
   exact sK kput0 h
 | shift op i j=>
   simp only [cb.all,aan,aaH,or_false,forall_eq_or_imp,forall_eq] at hl
   simp only [bB] at h ⊢
   rw [hl.1,hl.2]
   exact n9 kput0 h
 | iR neq i j=>
   simp only [cb.all,aan,aaH,or_false,forall_eq_or_imp,forall_eq] at hl
   simp only [bB] at h ⊢
   rw [hl.1,hl.2]
   exact mH kput0 h
 | indexAddr esz i j=>
   simp only [cb.all,aan,aaH,or_false,forall_eq_or_imp,forall_eq] at hl
   simp only [bB] at h ⊢
   rw [hl.1,hl.2]
   exact ⟨h.1,jC kput0 h.2⟩
 | di i j=>
   simp only [cb.all,aan,aaH,or_false,forall_eq_or_imp,forall_eq] at hl
   simp only [bB] at h ⊢
   rw [hl.1,hl.2]
   exact ku kput0 h
 | dV n i j=>
   simp only [cb.all,aan,aaH,or_false,forall_eq_or_imp,forall_eq] at hl
   simp only [bB] at h ⊢
   rw [hl.1,hl.2]
   exact kv kput0 h
 | lookup kd z i j ok=>
   simp only [cb.all,aan,aaH,or_false,forall_eq_or_imp,forall_eq] at hl
   simp only [bB] at h ⊢
   rw [hl.1,hl.2]
   exact mI kput0 h
 | mx big i j=>
   simp only [cb.all,aan,aaH,or_false,forall_eq_or_imp,forall_eq] at hl
   simp only [bB] at h ⊢
   rw [hl.1,hl.2]
   exact wC kput0 h
 | store m i j=>
   simp only [cb.all,aan,aaH,or_false,forall_eq_or_imp,forall_eq] at hl
   simp only [bB] at h ⊢
   rw [hl.1,hl.2]
   exact CM (fun H' hk=>kenv H' (fun e=>by cases e) (fun e=>by cases e) hk) h
 | nQ m i j=>
   simp only [cb.all,aan,aaH,or_false,forall_eq_or_imp,forall_eq] at hl
   simp only [bB] at h ⊢
   rw [hl.1,hl.2]
   split at h <;> (try exact h.elim)
   exact AT (fun H' hk=>kenv H' (fun e=>by cases e) (fun e=>by cases e) hk) h
 | append esz bytes i j=>
   simp only [cb.all,aan,aaH,or_false,forall_eq_or_imp,forall_eq] at hl
   simp only [bB] at h ⊢
   rw [hl.1,hl.2]
   refine AQ (fun zs hk=>?_) h
   cases i with
   | c v=>exact kput0 _ hk
   | t s=>
     have hs:get cU s=get env1 s:=hl.1
     have e:∀ env:Env,get env s=get env1 s→put dst (.ap esz zs) (cG env (IX.t s).slot)=(put dst (.ap esz zs) [(s,(get env1 s).ab)])++env:=by
      intro env he
      cases dst <;> simp [put,cG,IX.slot,he]
     rw [e env1 rfl] at hk
     rw [e cU hs]
     refine hK _ H ?_ (fun _=>rfl) (fun _=>⟨[],by simp⟩) hk
     intro p hp
     cases dst with
     | none=>simp [put] at hp;subst hp;right;simp [cb.kill]
     | some d=>
       simp [put] at hp
       rcases hp with rfl | rfl
       ·left;rfl
       ·right;simp [cb.kill]
 | copy esz i j=>
   simp only [cb.all,aan,aaH,or_false,forall_eq_or_imp,forall_eq] at hl
   simp only [bB] at h ⊢
   rw [hl.1,hl.2]
   exact Ff (fun v H' hk=>kput v H' (fun e=>by cases e) (fun e=>by cases e) hk) h
 | k7 kd i j k=>
   simp only [cb.all,aan,aaH,or_false,forall_eq_or_imp,forall_eq] at hl
   simp only [bB] at h ⊢
   rw [hl.1,hl.2.1,hl.2.2]
   exact AS (fun H' hk=>kenv H' (fun e=>by cases e) (fun e=>by cases e) hk) h
 | fA i s=>
   simp only [cb.all,aan,aaH,or_false,forall_eq_or_imp,forall_eq] at hl
   simp only [bB] at h ⊢
   have hs:get cU s=get env1 s:=hl.2
   rw [hl.1,hs]
   exact yo (fun H' hk=>hK [(s,(get env1 s).ab)] H' (by simp [cb.kill]) (fun e=>by cases e) (fun e=>by cases e) hk) h
 | jI kd neq i=>
   simp only [cb.all,aav,forall_eq] at hl
   simp only [bB] at h ⊢
   rw [hl]
   exact uf kput0 h
 | un op i=>
   simp only [cb.all,aav,forall_eq] at hl
   simp only [bB] at h ⊢
   rw [hl]
   exact wB kput0 h
 | box i=>
   simp only [cb.all,aav,forall_eq] at hl
   simp only [bB] at h ⊢
   rw [hl]
   exact ⟨h.1,h.2.1,kput _ _ (fun e=>by cases e) (fun _=>⟨_,rfl⟩) h.2.2⟩
 | ms i=>
   simp only [cb.all,aav,forall_eq] at hl
   simp only [bB] at h ⊢
   rw [hl]
   exact ⟨h.1,kput0 _ h.2⟩
 | sx m i=>
   simp only [cb.all,aav,forall_eq] at hl
   simp only [bB] at h ⊢
   rw [hl]
   exact ⟨h.1,h.2.1,h.2.2.1,kput0 _ h.2.2.2⟩
 | alloc z=>
   simp only [bB] at h ⊢
   exact ⟨h.1,kput _ _ (fun e=>by cases e) (fun _=>⟨_,rfl⟩) h.2⟩
 | nS=>
   simp only [bB] at h ⊢
   exact kput _ _ (fun e=>by cases e) (fun _=>⟨_,rfl⟩) h
 | load sz i=>
   simp only [cb.all,aav,forall_eq] at hl
   simp only [bB] at h ⊢
   rw [hl]
   exact kr kput0 h
 | tQ sz esz i=>
   simp only [cb.all,aav,forall_eq] at hl
   simp only [bB] at h ⊢
   rw [hl]
   exact kr (fun z hz=>wD (fun v H' hk=>kput v H' (fun e=>by cases e) (fun e=>by cases e) hk) hz) h
 | eK i=>
   simp only [cb.all,aav,forall_eq] at hl
   simp only [bB] at h ⊢
   rw [hl]
   cases dst with
   | none=>exact h.elim
   | some d=>
     cases hv:aq env1 i with
     | ptr id off=>
       rw [hv] at h
       simp only at h ⊢
       cases bm:H[id]? with
       | none=>rw [bm] at h;exact h.elim
       | some ob=>
         rw [bm] at h
         cases ob with
         | cells es=>exact ⟨h.1,hK [(d,es.getD off .any)] _ (by simp) (fun e=>by cases e) (fun e=>by cases e) h.2⟩
         | _=>exact h.elim
     | _=>rw [hv] at h;exact h.elim
 | Aq esz i=>
   simp only [cb.all,aav,forall_eq] at hl
   simp only [bB] at h ⊢
   rw [hl]
   exact wD (fun v H' hk=>kput v H' (fun e=>by cases e) (fun e=>by cases e) hk) h
 | nilCheck i=>
   simp only [cb.all,aav,forall_eq] at hl
   simp only [bB] at h ⊢
   rw [hl]
   exact kw kput0 h
 | fieldAddr off sz i=>
   simp only [cb.all,aav,forall_eq] at hl
   simp only [bB] at h ⊢
   rw [hl]
   exact jB kput0 h
 | field off sz i=>
   simp only [cb.all,aav,forall_eq] at hl
   simp only [bB] at h ⊢
   rw [hl]
   exact oa kput0 h
 | len kd i=>
   simp only [cb.all,aav,forall_eq] at hl
   simp only [bB] at h ⊢
   rw [hl]
   exact ⟨h.1,sL kput0 h.2⟩
 | tS esz bytes z i=>
   simp only [cb.all,aav,forall_eq] at hl
   simp only [bB] at h ⊢
   rw [hl]
   exact CN (fun v H' hk=>kput v H' (fun e=>by cases e) (fun e=>by cases e) hk) h
 | nR esz bytes i=>
   simp only [cb.all,aav,forall_eq] at hl
   simp only [bB] at h ⊢
   rw [hl]
   exact uh kput0 h
 | extract i k=>
   simp only [cb.all,aav,forall_eq] at hl
   simp only [bB] at h ⊢
   rw [hl]
   exact lq kput0 h
 | eX k i=>
   simp only [cb.all,aav,forall_eq] at hl
   simp only [bB] at h ⊢
   rw [hl]
   exact lr kput0 h
 | gY i=>
   simp only [cb.all,aav,forall_eq] at hl
   simp only [bB] at h ⊢
   rw [hl]
   exact pL kput0 h
 | bytesOf i=>
   simp only [cb.all,aav,forall_eq] at hl
   simp only [bB] at h ⊢
   rw [hl]
   exact pM kput0 h
 | strOf i=>
   simp only [cb.all,aav,forall_eq] at hl
   simp only [bB] at h ⊢
   rw [hl]
   exact ug kput0 h
 | build z ps=>
   simp only [cb.all] at hl
   simp only [bB] at h ⊢
   have:(ps.map fun q=>(q.1,q.2.1,aq cU q.2.2))=ps.map fun q=>(q.1,q.2.1,aq env1 q.2.2):=
    aa5 fun q hq=>by rw [hl _ (aaq.2 ⟨q,hq,rfl⟩)]
   rw [this]
   exact mK (fun v hk=>kput0 _ hk) h
 | Cg esz z len ps=>
   simp only [cb.all] at hl
   simp only [bB] at h ⊢
   have:(ps.map fun q=>(q.1,aq cU q.2))=ps.map fun q=>(q.1,aq env1 q.2):=
    aa5 fun q hq=>by rw [hl _ (aaq.2 ⟨q,hq,rfl⟩)]
   rw [this]
   exact iq (fun v hk=>⟨hk.1,kput _ _ (fun e=>by cases e) (fun e=>by cases e) hk.2⟩) h
 | jK esz bytes z i j=>
   simp only [cb.all,aan,aaH,or_false,forall_eq_or_imp,forall_eq] at hl
   simp only [bB] at h ⊢
   rw [hl.1,hl.2]
   exact yp (fun v H' hk=>kput v H' (fun e=>by cases e) (fun e=>by cases e) hk) h
 | jL esz bytes z i j=>
   simp only [cb.all,aan,aaH,or_false,forall_eq_or_imp,forall_eq] at hl
   simp only [bB] at h ⊢
   rw [hl.1,hl.2]
   split at h <;> (try exact h.elim)
   exact yr (fun v H' hk=>kput v H' (fun e=>by cases e) (fun e=>by cases e) hk) h
 | nT esz z i=>
   simp only [cb.all,aav,forall_eq] at hl
   simp only [bB] at h ⊢
   rw [hl]
   exact AR (fun H' hk=>kput _ H' (fun e=>by cases e) (fun e=>by cases e) hk) h
 | buildSlice own esz z len ps=>
   simp only [cb.all] at hl
   simp only [bB] at h ⊢
   have:(ps.map fun q=>(q.1,aq cU q.2))=ps.map fun q=>(q.1,aq env1 q.2):=
    aa5 fun q hq=>by rw [hl _ (aaq.2 ⟨q,hq,rfl⟩)]
   rw [this]
   exact iq (fun v hk=>kput0 _ hk) h
 | slice esz i lo hi m=>
   simp only [cb.all,aan,aaO,forall_eq_or_imp] at hl
   obtain ⟨h1,h2⟩:=hl
   simp only [bB] at h ⊢
   rw [h1,gM (fun i hi=>h2 i (.inl (.inl hi))),gM (fun i hi=>h2 i (.inl (.inr hi))),gM (fun i hi=>h2 i (.inr hi))]
   exact mJ kput0 h
 | pY esz i lo hi m=>
   simp only [cb.all,aan,aaO,forall_eq_or_imp] at hl
   obtain ⟨h1,h2⟩:=hl
   simp only [bB] at h ⊢
   rw [h1,gM (fun i hi=>h2 i (.inl (.inl hi))),gM (fun i hi=>h2 i (.inl (.inr hi))),gM (fun i hi=>h2 i (.inr hi))]
   exact ⟨h.1,ui (fun z hz=>⟨hz.1,kput0 _ hz.2⟩) h.2⟩
 | dW i lo hi=>
   simp only [cb.all,aan,aaO,forall_eq_or_imp] at hl
   obtain ⟨h1,h2⟩:=hl
   simp only [bB] at h ⊢
   rw [h1,gM (fun i hi=>h2 i (.inl hi)),gM (fun i hi=>h2 i (.inr hi))]
   exact kx kput0 h
 | fn f first cap=>
   simp only [cb.all,aaO] at hl
   simp only [bB] at h ⊢
   rw [oh (fun i hi=>hl i (.inl hi)) AV.ab,oh (fun i hi=>hl i (.inr hi)) AV.ab]
   exact kput0 _ h
 | call f args pass=>
   simp only [cb.all,aan,forall_eq_or_imp] at hl
   obtain ⟨h1,h2⟩:=hl
   simp only [bB,pK] at h ⊢
   rw [h1]
   split at h <;> try exact h.elim
   all_goals
   obtain ⟨bU,hle,hcall⟩:=h
   refine ⟨bU,?_,hcall.mono fun r H' hk=>?_⟩
   ·rw [om h2];exact hle
   ·cases hp:bh args pass with
    | none=>
      rw [hp] at hk
      exact kput r H' (fun e=>by cases e) (fun e=>by cases e) hk
    | some s=>
      rw [hp] at hk
      have jv:IX.t s∈args∧s∈(cb.call f args pass).kill:=by
       unfold bh at hp
       simp only [cb.kill]
       split at hp
       ·rename_i j
        split at hp <;> cases hp
        rename_i hj
        try simp only [hj]
        exact ⟨aaI hj,by simp⟩
       ·cases hp
      have hs:get cU s=get env1 s:=h2 _ jv.1
      have e:∀ env:Env,get env s=get env1 s→put dst r (cG env (some s))=(put dst r [(s,(get env1 s).ab)])++env:=by
       intro env he
       cases dst <;> simp [put,cG,he]
      rw [e env1 rfl] at hk
      rw [e cU hs]
      refine hK _ H' ?_ (fun e=>by cases e) (fun e=>by cases e) hk
      intro p N7
      cases dst with
      | none=>simp [put] at N7;subst N7;exact .inr jv.2
      | some d=>
        simp [put] at N7
        rcases N7 with rfl | rfl
        ·left;rfl
        ·exact .inr jv.2
 | never=>exact h.elim
end Go.aI
end
section
namespace Go.aI
open Go
theorem cW {env1 cU:Env} (h:get env1=get cU):∀ mods:List (Nat×AV),get (mods++env1)=get (mods++cU)
 | []=>h
 | (k,v)::r=>by
   funext t
   simp only [List.cons_append,get]
   split
   ·rfl
   ·rw [cW h r]
theorem pN {env1 cU:Env} {t:Nat} (h:get env1 t=get cU t):∀ mods:List (Nat×AV),get (mods++env1) t=get (mods++cU) t
 | []=>h
 | (k,v)::r=>by
   simp only [List.cons_append,get]
   split
   ·rfl
   ·rw [pN h r]
theorem lz {env:Env} {t:Nat}:∀ {mods:List (Nat×AV)},(∀ p∈mods,p.1≠t)→get (mods++env) t=get env t
 | [],_=>rfl
 | (k,v)::r,h=>by
   simp only [List.cons_append,get]
   rw [if_neg (fun e=>h (k,v) (by simp) e.symm),lz (fun p hp=>h p (by simp [hp]))]
theorem IE {l:List IX} {s:Nat} (h:IX.t s∈l):s∈IX.Q5 l:=List.mem_filterMap.2 ⟨_,h,rfl⟩
theorem Fg {o:bH} {env1 cU:Env} (hl:∀ s∈o.lk,get cU s=get env1 s):∀ i∈o.op.all,aq cU i=aq env1 i:=by
 intro i hi
 cases i with
 | c v=>rfl
 | t s=>exact hl s (List.mem_append_left _ (IE hi))
theorem get_guard {env:Env} {g:Nat} {b:Bool} (h:get env g=.bool b):get ((g,AV.bool b)::env)=get env:=by
 funext t
 simp only [get]
 split
 ·rename_i e;rw [e,h]
 ·rfl
theorem oZ {P:Px} {o:bH} {env1 cU:Env} {H:List aa} {K1 K2:Env→List aa→Prop} (hl:∀ s∈o.lk,get cU s=get env1 s) (h:sH P o env1 H K1)
 (hK:∀ e1 e2 H',(∃ mods:List (Nat×AV),(∀ p∈mods,o.dst=some p.1∨p.1∈o.op.kill)∧get e1=get (mods++env1)∧get e2=get (mods++cU))→(o.op.SK=false→H'=H)→(o.op.y7=true→∃ e,H'=H++e)→K1 e1 H'→K2 e2 H'):sH P o cU H K2:=by
 unfold sH at *
 cases hg:o.g with
 | none=>
   simp only [hg] at h ⊢
   exact oY (Fg hl) h fun mods H' hm hc hg hk=>hK _ _ H' ⟨mods,hm,rfl,rfl⟩ hc hg hk
 | some p=>
   obtain ⟨g,want⟩:=p
   simp only [hg] at h ⊢
   unfold iU at *
   have vt:get cU g=get env1 g:=hl g (by simp [bH.lk,hg])
   rw [vt]
   split at h
   rotate_left
   ·rename_i hb
    refine hK _ _ H ⟨(match o.dst with | some d=>[(d,.tuple [])] | none=>[]),?_,?_,?_⟩ (fun _=>rfl) (fun _=>⟨[],by simp⟩) h
    ·cases hd:o.dst <;> simp
    ·cases hd:o.dst <;> rfl
    ·cases hd:o.dst <;> rfl
   ·exact h.elim
   rename_i b hb
   have pI:get cU g=.bool b:=by rw [vt,hb]
   refine ⟨fun e=>?_,fun e=>?_⟩
   ·subst e
    refine oY (env1:=(g,.bool b)::env1) (Fg (o:=o) fun s hs=>?_) (h.1 rfl) fun mods H' hm hc hg hk=>hK _ _ H' ⟨mods,hm,cW (get_guard hb) mods,cW (get_guard pI) mods⟩ hc hg hk
    rw [get_guard hb,get_guard pI]
    exact hl s hs
   ·have h2:=h.2 e
    subst e
    refine hK _ _ H ⟨(match o.dst with | some d=>[(d,.tuple [])] | none=>[]),?_,?_,?_⟩ (fun _=>rfl) (fun _=>⟨[],by simp⟩) h2
    ·cases hd:o.dst <;> simp
    ·cases hd:o.dst with
     | none=>exact get_guard hb
     | some d=>exact cW (get_guard hb) [(d,.tuple [])]
    ·cases hd:o.dst with
     | none=>exact get_guard pI
     | some d=>exact cW (get_guard pI) [(d,.tuple [])]
theorem rn {P:Px} {o:bH} {env:Env} {H:List aa} {K1 K2:Env→List aa→Prop} (h:sH P o env H K1)
 (hK:∀ e1 e2 H',get e1=get e2→K1 e1 H'→K2 e2 H'):sH P o env H K2:=
 oZ (fun _ _=>rfl) h fun e1 e2 H' ⟨mods,_,h1,h2⟩ _ _ hk=>hK e1 e2 H' (h1.trans h2.symm) hk
section
variable {P:Px} {ops:Array Oper} {il:List bH} {K:Env→List aa→Prop}
def qA (P:Px) (il:List bH) (i:Nat) (env:Env) (H:List aa) (K:Env→List aa→Prop):Prop:=
 match il[i]? with
 | none=>K env H
 | some o=>sH P o env H K
def wE (P:Px) (ops:Array Oper) (il:List bH) (K:Env→List aa→Prop):Nat→Array Bool→Env→List aa→Prop
 | 0,listed,env,H=>Region.ready .any ops listed=[]∧K env H
 | f + 1,listed,env,H=>(Region.ready .any ops listed=[]→K env H)∧∀ i∈Region.ready .any ops listed,qA P il i env H (wE P ops il K f (listed.setIfInBounds i true))
def Inv (K:Env→List aa→Prop):Prop:=∀ e1 e2 H,get e1=get e2→K e1 H→K e2 H
theorem iV (hK:Inv K):∀ (f:Nat) (listed:Array Bool) {e1 e2:Env} {H:List aa},get e1=get e2→wE P ops il K f listed e1 H→wE P ops il K f listed e2 H
 | 0,_,_,_,_,he,h=>⟨h.1,hK _ _ _ he h.2⟩
 | f + 1,listed,e1,e2,H,he,h=>by
   refine ⟨fun h0=>hK _ _ _ he (h.1 h0),fun i hi=>?_⟩
   have hq:=h.2 i hi
   unfold qA at *
   split
   ·rename_i hn;simp only [hn] at hq;exact iV hK f _ he hq
   ·rename_i o ho
    simp only [ho] at hq
    exact oZ (fun s _=>by rw [he]) hq fun a b H' ⟨mods,_,h1,h2⟩ _ _ hk=>iV hK f _ (by rw [h1,h2,cW he]) hk
def WC (P:Px) (st:Bool) (o:bH) (env:Env) (H:List aa) (x:AV):Prop:=
 ∃ ρ:IX→AV,(∀ i∈o.op.all,aq env i=ρ i)∧match o.g with
  | none=>dv P st o.op ρ H x
  | some (g,want)=>(∃ b,get env g=.bool b∧(b=want→dv P st o.op ρ H x)∧(b≠want→x=.tuple []))∨(get env g=.tuple []∧x=.tuple [])
theorem G9 {st:Bool} {o:cb} {ρ:IX→AV} {H:List aa} {x:AV} (h:dv P st o ρ H x):df P o ρ H x:=by
 cases st
 ·exact h H
 ·exact h
theorem wF {H e:List aa} {id:Nat} {o:aa} (h:H[id]?=some o):(H++e)[id]?=some o:=by
 rw [tK (aaz.1 h).1,h]
theorem Fh {sz:Option Nat} {x:AV} {H e:List aa} {φ:AV→Prop} (h:aU sz x H φ):aU sz x (H++e) φ:=by
 unfold aU at *
 split at h
 ·split at h
  ·rename_i bm;rw [wF bm];exact h
  ·exact h.elim
 ·exact h
 ·exact h.elim
theorem IF {x:AV} {H e:List aa} {φ:AV→Prop} (h:eU x H φ):eU x (H++e) φ:=by
 unfold eU at *
 split at h <;> (try exact h)
 split at h
 ·rename_i bm;rw [wF bm];exact h
 ·exact h.elim
theorem AU {kd:Nat} {z m k:AV} {ok:Bool} {H e:List aa} {φ:AV→Prop} (h:cu kd z m k ok H φ):cu kd z m k ok (H++e) φ:=by
 unfold cu at *
 split at h <;> (try exact h)
 split at h
 ·rename_i bm;rw [wF bm];exact h
 ·exact h.elim
theorem zc {o:cb} {ρ:IX→AV} {H e:List aa} {x:AV} (hs:o.stays=true) (h:df P o ρ H x):df P o ρ (H++e) x:=by
 cases o with
 | call f args pass=>cases hs
 | load sz i=>
   unfold df at h ⊢
   exact Fh h
 | len kd i=>
   unfold df at h ⊢
   exact ⟨h.1,IF h.2⟩
 | lookup kd z m k ok=>
   unfold df at h ⊢
   exact AU h
 | set i t=>cases t <;> exact h
 | _=>exact h
theorem CO {st:Bool} {o:cb} {ρ:IX→AV} {H H':List aa} {x:AV} (hH:st=true→H'=H∨(o.stays=true∧∃ e,H'=H++e)) (h:dv P st o ρ H x):dv P st o ρ H' x:=by
 cases st
 ·exact h
 ·rcases hH rfl with e | ⟨h1,e,he⟩
  ·rw [e];exact h
  ·rw [he];exact zc h1 h
theorem IG {st:Bool} {o:bH} {env1 cU:Env} {H1 H2:List aa} {x:AV} (hl:∀ s∈o.lk,get cU s=get env1 s) (hH:st=true→H2=H1∨(o.op.stays=true∧∃ e,H2=H1++e)) (h:WC P st o env1 H1 x):WC P st o cU H2 x:=by
 obtain ⟨ρ,h1,h2⟩:=h
 refine ⟨ρ,fun i hi=>(Fg hl i hi).trans (h1 i hi),?_⟩
 cases hg:o.g with
 | none=>simp only [hg] at h2 ⊢;exact CO hH h2
 | some p=>
   obtain ⟨g,want⟩:=p
   simp only [hg] at h2 ⊢
   rcases h2 with ⟨b,k1,k2,k3⟩ | ⟨k1,k2⟩
   ·exact .inl ⟨b,(hl g (by simp [bH.lk,hg])).trans k1,fun e=>CO hH (k2 e),k3⟩
   ·exact .inr ⟨(hl g (by simp [bH.lk,hg])).trans k1,k2⟩
theorem Ha {st:Bool} {o:bH} {env:Env} {H:List aa} {x:AV} (h:WC P st o env H x):sH P o env H fun e H'=>H'=H∧get e=get (put o.dst x env):=by
 obtain ⟨ρ,h1,h2⟩:=h
 unfold sH
 cases hg:o.g with
 | none=>simp only [hg] at h2 ⊢;exact CL (G9 h2) h1
 | some p=>
   obtain ⟨g,want⟩:=p
   simp only [hg] at h2 ⊢
   rcases h2 with ⟨b,k1,k2,k3⟩ | ⟨k1,k2⟩
   rotate_left
   ·unfold iU
    rw [k1]
    subst k2
    exact ⟨by simp,rfl⟩
   unfold iU
   rw [k1]
   refine ⟨fun e=>?_,fun e=>?_⟩
   ·subst e
    have Nu:=get_guard k1
    have:=CL (dst:=o.dst) (env:=(g,.bool b)::env) (G9 (k2 rfl)) (fun i hi=>by
     rw [← h1 i hi]
     cases i with
     | c v=>rfl
     | t s=>show get _ s=get _ s;rw [Nu])
    refine oY (fun _ _=>rfl) this ?_
    intro mods H' _ _ _ hk
    refine ⟨hk.1,hk.2.trans ?_⟩
    rw [kP,kP,Nu]
   ·have dG:b≠want:=by intro e2;subst e2;cases b <;> cases e
    have hx:=k3 dG
    subst hx
    subst e
    exact ⟨by simp,by rw [kP,kP,get_guard k1]⟩
def closed (ops:Array Oper) (listed:Array Bool):Prop:=∀ k o,ops[k]?=some o→listed.getD k false=true→∀ e∈o.after,Region.binds .any e=true→listed.getD e.on false=true
theorem lR {listed:Array Bool} (hc:closed ops listed) {i:Nat}:∀ (f j:Nat) (oj:Oper),ops[j]?=some oj→(∀ e∈oj.after,Region.binds .any e=true→listed.getD e.on false=true)→dr ops f j i=true→listed.getD i false=true
 | 0,_,_,_,_,h=>by simp [dr] at h
 | f + 1,j,oj,hj,iJ,h=>by
   simp only [dr,hj] at h
   obtain ⟨k,hk,he⟩:=Array.any_eq_true.1 h
   simp only [Sr,abm,beq_iff_eq] at he
   have jv:oj.after[k]∈oj.after:=Array.getElem_mem hk
   have hl:=iJ _ jv he.1
   rcases he.2 with e | e
   ·rw [← e];exact hl
   ·have hso:∃ o',ops[(oj.after[k]).on]?=some o':=by
     cases f with
     | zero=>simp [dr] at e
     | succ f=>
       cases ho:ops[(oj.after[k]).on]? with
       | none=>simp [dr,ho] at e
       | some o'=>exact ⟨o',rfl⟩
    obtain ⟨o',SQ⟩:=hso
    exact lR hc f _ o' SQ (hc _ _ SQ hl) e
theorem qf {listed:Array Bool} {i:Nat} (h:listed.getD i true=false):listed.getD i false=false:=by
 simp only [aaL] at *
 cases hx:listed[i]? with
 | none=>rfl
 | some b=>rw [hx] at h;simpa using h
theorem qg {listed:Array Bool} (hc:closed ops listed) {j:Nat} (hj:j∈Region.ready .any ops listed):closed ops (listed.setIfInBounds j true):=by
 obtain ⟨_,oj,SL,iJ⟩:=mem_ready.1 hj
 intro k o ho hk e he hb
 refine getD_set_true ?_
 by_cases hkj:k=j
 ·subst hkj
  rw [SL] at ho
  cases ho
  exact iJ e he hb
 ·rw [getD_set_ne false (Ne.symm hkj)] at hk
  exact hc k o ho hk e he hb
theorem CP {listed:Array Bool} {i j:Nat} {st:Bool} (h:n8 ops il listed i st=true) (hj:j < ops.size) (Hb:j≠i) (hun:listed.getD j true=false) (jN:dr ops ops.size j i=false):sI st (il.getD i default) (il.getD j default)=true:=by
 unfold n8 at h
 have:=aaJ.1 h j (aaP.2 hj)
 simp only [abm,beq_iff_eq,hun,jN,aaT,or_false] at this
 rcases this with e | e
 ·exact absurd e Hb
 ·exact e
theorem CQ {listed:Array Bool} {i j:Nat} {st:Bool} (h:n8 ops il listed i st=true):n8 ops il (listed.setIfInBounds j true) i st=true:=by
 unfold n8 at *
 refine aaJ.2 fun k hk=>?_
 have:=aaJ.1 h k hk
 simp only [abm] at this ⊢
 rcases this with ((e | e) | e) | e
 ·exact .inl (.inl (.inl e))
 ·refine .inl (.inl (.inr ?_))
  by_cases Q4:j=k
  ·subst Q4
   simp only [aaL,acN]
   split
   ·split <;> simp
   ·rename_i dG;exact absurd trivial dG
  ·rw [getD_set_ne true Q4];exact e
 ·exact .inl (.inr e)
 ·exact .inr e
theorem CR {st:Bool} {oi oj:bH} (h:sI st oi oj=true) :
 (∀ d,oi.dst=some d→d∉oj.lk∧oj.dst≠some d∧d∉oj.op.kill)∧(∀ d,oj.dst=some d→d∉oi.lk)∧(∀ s∈oj.op.kill,s∉oi.lk)∧(st=true→oj.op.SK=false∨(oj.op.y7=true∧oi.op.stays=true)):=by
 unfold sI at h
 simp only [Sr,abm,aaN] at h
 obtain ⟨⟨⟨h1,h2⟩,h3⟩,h4⟩:=h
 refine ⟨fun d hd=>?_,fun d hd=>?_,fun s hs=>?_,fun e=>?_⟩
 ·rw [hd] at h1
  simpa [and_assoc] using h1
 ·rw [hd] at h2
  simpa using h2
 ·have:=aaJ.1 h3 s hs
  simpa using this
 ·rcases h4 with (e2 | e2) | e2
  ·rw [e] at e2;cases e2
  ·exact .inl e2
  ·exact .inr e2
theorem rp {l:List bH} {i:Nat} {o:bH} (h:l[i]?=some o):l.getD i default=o:=by
 rw [oM,h];rfl
theorem IH (hK:Inv K) (db:il.length=ops.size) {i:Nat} {oi:bH} {x:AV} {st:Bool} (hi:il[i]?=some oi):∀ (f:Nat) (listed:Array Bool) {env:Env} {H:List aa},closed ops listed→n8 ops il listed i st=true→i∈Region.ready .any ops listed→
 WC P st oi env H x→wE P ops il K f (listed.setIfInBounds i true) (put oi.dst x env) H→wE P ops il K (f + 1) listed env H:=by
 intro f
 induction f with
 | zero=>
   intro listed env H jr EF hr ht hD
   refine ⟨fun h=>(by rw [h] at hr;cases hr),fun j hj=>?_⟩
   by_cases Hb:j=i
   ·subst Hb
    unfold qA
    simp only [hi]
    exact rn (Ha ht) fun e1 e2 H' he ⟨h1,h2⟩=>by
     subst h1
     exact iV hK 0 _ (h2.symm.trans he) hD
   ·have:=ready_mono hj Hb
    rw [hD.1] at this
    cases this
 | succ f ih=>
   intro listed env H jr EF hr ht hD
   refine ⟨fun h=>(by rw [h] at hr;cases hr),fun j hj=>?_⟩
   by_cases Hb:j=i
   ·subst Hb
    unfold qA
    simp only [hi]
    exact rn (Ha ht) fun e1 e2 H' he ⟨h1,h2⟩=>by
     subst h1
     exact iV hK (f + 1) _ (h2.symm.trans he) hD
   ·have h1:=hD.2 j (ready_mono hj Hb)
    obtain ⟨aby,oj',WD,iJ⟩:=mem_ready.1 hj
    have hjs:j < ops.size:=(aaX.1 WD).1
    have jN:dr ops ops.size j i=false:=by
     cases hma:dr ops ops.size j i with
     | false=>rfl
     | true=>
       have:=lR jr _ j oj' WD iJ hma
       rw [qf (mem_ready.1 hr).1] at this
       cases this
    have WE:=CP EF hjs Hb aby jN
    rw [rp hi] at WE
    unfold qA at *
    cases SL:il[j]? with
    | none=>
      rw [List.getElem?_eq_none_iff] at SL
      omega
    | some oj=>
      rw [rp SL] at WE
      obtain ⟨a1,a2,a3,a4⟩:=CR WE
      simp only [SL] at h1 ⊢
      refine oZ (env1:=put oi.dst x env) (fun s hs=>?_) h1 fun e1 e2 H' ⟨mods,hm,g1,g2⟩ hch hgr hk=>?_
      ·rw [kP]
       cases hd:oi.dst with
       | none=>rfl
       | some d=>
         simp only [SP,fJ]
         rw [if_neg]
         intro e
         exact (a1 d hd).1 (e ▸ hs)
      ·have JW:∀ s∈oi.lk,∀ p∈mods,p.1≠s:=by
        intro s hs p hp e
        rcases hm p hp with h | h
        ·exact a2 _ h (e ▸ hs)
        ·exact a3 _ h (e ▸ hs)
       have hmd:∀ d,oi.dst=some d→∀ p∈mods,p.1≠d:=by
        intro d hd p hp e
        rcases hm p hp with h | h
        ·exact (a1 d hd).2.1 (e ▸ h)
        ·exact (a1 d hd).2.2 (e ▸ h)
       refine ih (listed.setIfInBounds j true) (qg jr hj) (CQ EF) (ready_mono hr (Ne.symm Hb)) ?_ ?_
       ·refine IG (fun s hs=>?_) (fun e=>(a4 e).imp hch fun ⟨q1,q2⟩=>⟨q2,hgr q1⟩) ht
        rw [g2]
        exact lz (JW s hs)
       ·rw [Array.setIfInBounds_comm _ _ Hb]
        refine iV hK f _ ?_ hk
        rw [g1,kP,g2]
        cases hd:oi.dst with
        | none=>rfl
        | some d=>
          funext t
          simp only [SP,fJ,put]
          by_cases htd:t=d
          ·subst htd
           rw [if_pos rfl,lz (hmd t hd)]
           simp [get]
          ·rw [if_neg htd]
           refine pN ?_ mods
           simp [get,htd]
theorem N8 (hK:Inv K) (db:il.length=ops.size):∀ (p:x9) (f:Nat) (listed:Array Bool) {env:Env} {H:List aa},closed ops listed→
 (uU ops il f listed none p=true→vr P (inst il p) env H K→wE P ops il K f listed env H)∧
 (∀ ks,(∀ i∈ks,i∈Region.ready .any ops listed)→uU ops il (f + 1) listed (some ks) p=true→vr P (inst il p) env H K→∀ i∈ks,qA P il i env H (wE P ops il K f (listed.setIfInBounds i true))):=by
 intro p
 induction p with
 | done=>
   intro f listed env H jr
   refine ⟨fun h hd=>?_,fun ks _ h _ i hi=>?_⟩
   ·have:Region.ready .any ops listed=[]:=by
     cases f <;> simpa [uU,List.isEmpty_iff] using h
    simp only [inst,vr] at hd
    cases f with
    | zero=>exact ⟨this,hd⟩
    | succ f=>exact ⟨fun _=>hd,fun i hi=>by rw [this] at hi;cases hi⟩
   ·cases ks with
    | nil=>cases hi
    | cons k ks=>simp [uU] at h
 | nil=>
   intro f listed env H jr
   refine ⟨fun h _=>by cases f <;> simp [uU] at h,fun ks _ h _ i hi=>?_⟩
   cases ks with
   | nil=>cases hi
   | cons k ks=>simp [uU] at h
 | take k st r ih=>
   intro f listed env H jr
   refine ⟨fun h hd=>?_,fun ks _ h _ i hi=>?_⟩
   ·cases f with
    | zero=>simp [uU] at h
    | succ f=>
      simp only [uU,Sr,List.contains_iff_mem] at h
      obtain ⟨⟨⟨hr,agF⟩,EF⟩,hp⟩:=h
      obtain ⟨_,ok,jt,_⟩:=mem_ready.1 hr
      have EZ:k < il.length:=by rw [db];exact (aaX.1 jt).1
      have NT:il[k]?=some (il.getD k default):=by rw [oM,Nq EZ];rfl
      simp only [inst,vr,ud] at hd
      have fin:∀ x,WC P st (il.getD k default) env H x→vr P (inst il r) (put (il.getD k default).dst x env) H K→wE P ops il K (f + 1) listed env H:=by
       intro x hx hrest
       exact IH hK db NT f listed jr EF hr hx ((ih f _ (qg jr hr)).1 hp hrest)
      cases hg:(il.getD k default).g with
      | none=>
        simp only [hg] at hd
        obtain ⟨x,hx,hrest⟩:=hd
        exact fin x ⟨aq env,fun _ _=>rfl,by simp only [hg];exact hx⟩ hrest
      | some gw=>
        obtain ⟨g,want⟩:=gw
        simp only [hg,iU] at hd
        split at hd
        rotate_left
        ·rename_i hb
         exact fin (.tuple []) ⟨aq env,fun _ _=>rfl,by simp only [hg];exact .inr ⟨hb,by trivial⟩⟩ hd
        ·exact hd.elim
        rename_i b hb
        by_cases G8:b=want
        ·obtain ⟨x,hx,hrest⟩:=hd.1 G8
         exact fin x ⟨aq env,fun _ _=>rfl,by simp only [hg];exact .inl ⟨b,hb,fun _=>hx,fun e=>absurd G8 e⟩⟩ hrest
        ·have hrest:=hd.2 (by cases b <;> cases want <;> first | rfl | exact absurd rfl G8)
         exact fin (.tuple []) ⟨aq env,fun _ _=>rfl,by simp only [hg];exact .inl ⟨b,hb,fun e=>absurd e G8,fun _=>by trivial⟩⟩ hrest
   ·cases ks with
    | nil=>cases hi
    | cons k ks=>simp [uU] at h
 | br k t rest Kv JV=>
   intro f listed env H jr
   have key:∀ (f:Nat) (ks:List Nat),(∀ i∈k::ks,i∈Region.ready .any ops listed)→uU ops il f (listed.setIfInBounds k true) none t=true→uU ops il (f + 1) listed (some ks) rest=true→vr P (inst il (.br k t rest)) env H K→
    ∀ i∈k::ks,qA P il i env H (wE P ops il K f (listed.setIfInBounds i true)):=by
    intro f ks EZ h1 h2 hd i hi
    simp only [inst,vr] at hd
    rcases aan.1 hi with rfl | hi
    ·have hr:=EZ i (by simp)
     obtain ⟨_,ok,jt,_⟩:=mem_ready.1 hr
     have aX:i < il.length:=by rw [db];exact (aaX.1 jt).1
     have NT:il[i]?=some (il.getD i default):=by rw [oM,Nq aX];rfl
     unfold qA
     rw [NT]
     exact rn hd.1 fun e1 e2 H' he hk=>iV hK f _ he ((Kv f _ (qg jr hr)).1 h1 hk)
    ·exact (JV f listed jr).2 ks (fun j hj=>EZ j (by simp [hj])) h2 hd.2 i hi
   refine ⟨fun h hd=>?_,fun ks EZ h hd i hi=>?_⟩
   ·cases f with
    | zero=>simp [uU] at h
    | succ f=>
      simp only [uU] at h
      split at h
      ·rename_i k' ks hrd
       simp only [Sr,beq_iff_eq] at h
       obtain ⟨⟨rfl,h1⟩,h2⟩:=h
       have:=key f ks (fun i hi=>by rw [hrd];exact hi) h1 h2 hd
       exact ⟨(fun e=>by rw [e] at hrd;cases hrd),fun i hi=>this i (by rw [hrd] at hi;exact hi)⟩
      ·cases h
   ·cases ks with
    | nil=>cases hi
    | cons k' ks=>
      simp only [uU,Sr,beq_iff_eq] at h
      obtain ⟨⟨rfl,h1⟩,h2⟩:=h
      exact key f ks EZ h1 h2 hd i hi
end
end Go.aI
end
section
namespace Go.aI
open Go
section
variable {ro:Option Nat} {P:Program} {lo:Option Nat} {A:Perm} {n:Nat}
theorem oq {ops:Array Oper} {an:B9} {rid:Nat}:∀ (fuel k:Nat) (l:List Oper) (il:List bH),eY P ops an n rid false fuel k l=some il→
 il.length=l.length∧∀ (j:Nat) (o:Oper),l[j]?=some o→∃ g,GY ops o=some g∧GX n o=true∧il[j]?=some ⟨g,o.dst,CE P o (an.at_ rid (k + j))⟩
 | _,_,[],il,hc=>by
   unfold eY at hc
   cases hc
   exact ⟨rfl,fun j o h=>by simp at h⟩
 | 0,_,o::r,il,hc=>by simp [eY] at hc
 | fuel + 1,k,o::r,il,hc=>by
   unfold eY at hc
   simp only [aaT,and_false,if_false] at hc
   split at hc <;> try cases hc
   rename_i g xs hg fS
   split at hc <;> cases hc
   rename_i gF
   obtain ⟨h1,h2⟩:=oq fuel (k + 1) r xs fS
   refine ⟨by simp [h1],fun j o' hj=>?_⟩
   cases j with
   | zero=>
     simp at hj
     subst hj
     exact ⟨g,hg,gF,by simp⟩
   | succ j=>
     simp at hj
     obtain ⟨g',e1,e2,e3⟩:=h2 j o' hj
     exact ⟨g',e1,e2,by simp [e3,acG,aew 1 j]⟩
theorem uk {ops:Array Oper} {il:List bH} {an:B9} {rid:Nat} {L0:List Nat} {M0:Mem} {w0:World} {K:Env→List aa→Prop} {Q:Exit→Act→World→Prop}
 (hp:∀ l,lo=some l→∀ id,l≤id→A.top id=none) (hc:eY P ops an n rid false (ops.size + 1) 0 ops.toList=some il)
 (hF:∀ (M:Mem) (L:List Nat) (w:World) (H:List aa) (env:Env) (O:Pos→Option Nat) (a:Act),K env H→Fr A n M L w H env O a→Ext A M0 w0 M w→L0 <+: L→Q .normal a w) :
 ∀ (f:Nat) (listed:Array Bool) {M:Mem} {L:List Nat} {w:World} {H:List aa} {env:Env} {O:Pos→Option Nat} {a:Act},Fr A n M L w H env O a→Ext A M0 w0 M w→L0 <+: L→wE ⟨P,lo⟩ ops il K f listed env H→wpAnyIn (wf ro) 0 P .any ops Q f listed a w
 | 0,_,_,_,_,_,_,_,_,hf,cF,hL,h=>⟨h.1,hF _ _ _ _ _ _ _ h.2 hf cF hL⟩
 | f + 1,listed,M,L,w,H,env,O,a,hf,cF,hL,h=>by
   refine ⟨fun h0=>hF _ _ _ _ _ _ _ (h.1 h0) hf cF hL,fun i hi=>?_⟩
   have hq:=h.2 i hi
   unfold wpOpIn
   cases ho:ops[i]? with
   | none=>
     obtain ⟨_,o,SQ,_⟩:=mem_ready.1 hi
     rw [ho] at SQ;cases SQ
   | some o=>
     obtain ⟨g,hg,gF,yc⟩:=(oq _ _ _ _ hc).2 i o (by simpa using ho)
     unfold qA at hq
     rw [yc] at hq
     have hs:=y9 (ro:=ro) (ops:=ops) hg gF hp hf hq Q
     have hrest:∀ a' w',nD A n M L w (wE ⟨P,lo⟩ ops il K f (listed.setIfInBounds i true)) a' w'→wpAnyIn (wf ro) 0 P .any ops Q f (listed.setIfInBounds i true) a' w':=by
      rintro a' w' ⟨M',L',H',aH,O',k1,k2,k3,k4⟩
      exact uk hp hc hF f _ k2 (cF.trans k3) (hL.trans k4) k1
     simp only
     split
     ·rename_i hw
      rw [if_pos hw] at hs
      exact Oper.wpIn_mono hrest hs
     ·rename_i hw
      rw [if_neg hw] at hs
      exact ⟨fun _ _=>trivial,hrest _ _ hs⟩
theorem II (L0:List Nat) (hp:∀ l,lo=some l→∀ id,l≤id→A.top id=none):za P ro lo A n L0:=by
 intro id ops il p live an M L w H env O a M0 w0 Q hm hB hc h hf cF hL
 simp only [mn] at h
 have hK:Inv (fun (aH:Env) (H':List aa)=>∃ e,get e=get aH∧Q .normal (eM live e) H'):=fun e1 e2 H he ⟨e,h1,h2⟩=>⟨e,h1.trans he,h2⟩
 have db:il.length=ops.size:=by simpa using (oq _ _ _ _ hc).1
 have hB:=Ku db p _ _ _ _ (Iz _) (by simp) hB
 have jr:closed ops (Array.replicate ops.size false):=by
  intro k o _ hk
  simp only [aaL,aex] at hk
  split at hk <;> cases hk
 have hd:vr ⟨P,lo⟩ (inst il p) env H (fun (aH:Env) (H':List aa)=>∃ e,get e=get aH∧Q .normal (eM live e) H'):=by
  have mono:∀ (t:DT) (env:Env) (H:List aa) (K1 K2:Env→List aa→Prop),(∀ e H,K1 e H→K2 e H)→Inv K2→vr ⟨P,lo⟩ t env H K1→vr ⟨P,lo⟩ t env H K2:=by
   intro t
   induction t with
   | done=>intro env H K1 K2 hk _ h;exact hk _ _ h
   | nil=>intro _ _ _ _ _ _ _;trivial
   | take st o r ih=>
     intro env H K1 K2 hk hi h
     simp only [vr,ud] at h ⊢
     cases hg:o.g with
     | none=>
       simp only [hg] at h ⊢
       obtain ⟨x,hx,h⟩:=h
       exact ⟨x,hx,ih _ _ _ _ hk hi h⟩
     | some gw=>
       obtain ⟨g,want⟩:=gw
       simp only [hg,iU] at h ⊢
       split at h
       rotate_left
       ·exact ih _ _ _ _ hk hi h
       ·exact h.elim
       exact ⟨fun e=>let ⟨x,hx,h⟩:=h.1 e;⟨x,hx,ih _ _ _ _ hk hi h⟩,fun e=>ih _ _ _ _ hk hi (h.2 e)⟩
   | br o t rest Kv JV=>
     intro env H K1 K2 hk hi h
     have hinv:∀ K:Env→List aa→Prop,Inv K→∀ t,Inv fun env H=>vr ⟨P,lo⟩ t env H K:=by
      intro K hK t
      induction t with
      | done=>exact hK
      | nil=>intro _ _ _ _ _;trivial
      | take st o r ih=>
        intro e1 e2 H he h
        simp only [vr,ud] at h ⊢
        have hav:aq e2=aq e1:=by
         funext i
         cases i with
         | c v=>rfl
         | t s=>show get e2 s=get e1 s;rw [he]
        have nX:∀ x,get (put o.dst x e1)=get (put o.dst x e2):=fun x=>by rw [kP,kP,he]
        cases hg:o.g with
        | none=>
          simp only [hg] at h ⊢
          obtain ⟨x,hx,h⟩:=h
          exact ⟨x,by rw [hav];exact hx,ih _ _ _ (nX x) h⟩
        | some gw=>
          obtain ⟨g,want⟩:=gw
          simp only [hg,iU] at h ⊢
          rw [← he]
          split at h
          rotate_left
          ·exact ih _ _ _ (nX _) h
          ·exact h.elim
          exact ⟨fun e=>let ⟨x,hx,h⟩:=h.1 e;⟨x,by rw [hav];exact hx,ih _ _ _ (nX x) h⟩,fun e=>ih _ _ _ (nX _) (h.2 e)⟩
      | br o t rest Kv JV=>
        intro e1 e2 H he h
        exact ⟨oZ (fun s _=>by rw [he]) h.1 fun a b H' ⟨mods,_,g1,g2⟩ _ _ hk=>Kv _ _ _ (by rw [g1,g2,cW he]) hk,JV _ _ _ he h.2⟩
     exact ⟨rn h.1 fun e1 e2 H' he ul=>hinv K2 hi t _ _ _ he (Kv _ _ _ _ hk hi ul),JV _ _ _ _ hk hi h.2⟩
  exact mono _ _ _ _ _ (fun e H hq=>⟨e,rfl,hq⟩) hK h
 have hA:=(N8 (P:=⟨P,lo⟩) hK db p ops.size (Array.replicate ops.size false) (env:=env) (H:=H) jr).1 hB hd
 refine wpIn_region_any hm (uk (M0:=M0) (w0:=w0) (L0:=L0) hp hc ?_ ops.size _ (M:=M) (L:=L) (H:=H) (env:=env) (O:=O) ⟨hf.st.drew,hf.size,hf.defers.ext (Ext.drew (M:=M))⟩ (cF.trans Ext.drew) hL hA)
 rintro M' L' w' H' aH O' a' ⟨e,he,hq⟩ h2 h3 h4
 obtain ⟨O'',h5⟩:=(h2.Fa he).weaken (y8 live e)
 exact ⟨A,M',L',H',_,O'',.refl A,hq,h5,h3,h4⟩
theorem Fi {L0:List Nat} {an:B9} {lv:lF} {pl:lG} (c:Code) (ir:IR) (hc:comp P an lv pl n c=some ir) {M:Mem} {L:List Nat} {w:World} {H:List aa} {env:Env} {O:Pos→Option Nat} {a:Act} {Q:Exit→Env→List aa→Prop}
 (hA:fM lo L0.length A) (xZ:Own ro w) (h:mn ⟨P,lo⟩ L0.length ir env H Q) (hf:Fr A n M L w H env O a) (hL:L0 <+: L):c.wpIn (wf ro) 0 P (E9 A n M L0 w Q) a w:=
 sound (fun A hA=>II L0 hA.opens) c ir hc hA xZ h hf hL
end
end Go.aI
end
