/- Part 2 of 19 of the proof. -/
import Derived.Test.YtljchnfgjdjobaaGreatYaa
import Derived.RangeFuncNested
set_option linter.unusedVariables false
set_option linter.unusedSimpArgs false
set_option linter.defProp false
set_option linter.unusedSectionVars false
section
namespace Go.aJ
open Go
def tP (xs:List AV) (H:List aa) (K:AV→List aa→Prop):Prop:=
 ak (H.length + 1) ((flat xs).map AV.ae)=true∧K (.aU H.length 0 xs.length xs.length) (H++[.cells ((flat xs).map AV.ae)])
def cS (z:AV) (n:Nat):List AV:=flat (List.replicate n (bQ z))
def cT (esz bytes:Nat) (z s x:AV) (H:List aa) (K:AV→List aa→Prop):Prop:=
 match dB x with
 | none=>(match s,vM esz x H with
   | .aU id off len cap,some (n,ys)=>match H[id]? with
     | some (.cells es)=>n * esz≤ys.length∧(ys.take (n * esz)).all AV.one=true∧len + n≤cap∧off + cap * esz≤es.length∧ak (id + 1) ((ys.take (n * esz)).map AV.ae)=true∧
        K (.aU id off (len + n) cap) (H.set id (.cells (ai es (off + len * esz) ((ys.take (n * esz)).map AV.ae))))
     | _=>False
   | _,_=>False)
 | some ys=>sq esz ys∧match s with
   | .ah=>ys.length * bytes≤140737488355328∧(ys=[]→K .ah H)∧(ys≠[]→∀ cap,ys.length≤cap→cap < 9223372036854775808→
      ak (H.length + 1) ((flat ys).map AV.ae++cS z (cap - ys.length))=true∧K (.aU H.length 0 ys.length cap) (H++[.cells ((flat ys).map AV.ae++cS z (cap - ys.length))]))
   | .nC=>ys.length * bytes≤140737488355328∧(ys=[]→K .nC H)∧(ys≠[]→∀ cap,ys.length≤cap→cap < 9223372036854775808→
      ak (H.length + 1) ((flat ys).map AV.ae++cS z (cap - ys.length))=true∧K (.aU H.length 0 ys.length cap) (H++[.cells ((flat ys).map AV.ae++cS z (cap - ys.length))]))
   | .aU id off len cap=>match H[id]? with
     | some (.cells es)=>(len + ys.length) * bytes≤140737488355328∧len≤cap∧off + cap * esz≤es.length∧
        (len + ys.length≤cap→ak (id + 1) ((flat ys).map AV.ae)=true∧K (.aU id off (len + ys.length) cap) (H.set id (.cells (ai es (off + len * esz) ((flat ys).map AV.ae)))))∧
        (cap < len + ys.length→∀ eC,len + ys.length≤eC→eC < 9223372036854775808→
          ak (H.length + 1) (((es.drop off).take (len * esz)).map AV.ae++(flat ys).map AV.ae++cS z (eC - (len + ys.length)))=true∧
          K (.aU H.length 0 (len + ys.length) eC) (H++[.cells (((es.drop off).take (len * esz)).map AV.ae++(flat ys).map AV.ae++cS z (eC - (len + ys.length)))]))
     | _=>False
   | _=>False
def jR (lm:Nat→Nat) (esz bytes:Nat) (z s x:AV) (H:List aa) (K:AV→List aa→Prop):Prop:=
 match dB x with
 | none=>(match s,vM esz x H with
   | .aU id off len cap,some (n,ys)=>match H[id]? with
     | some (.cells es)=>n * esz≤ys.length∧(ys.take (n * esz)).all AV.one=true∧len + n≤cap∧off + cap * esz≤es.length∧ak (lm id) ((ys.take (n * esz)).map AV.ae)=true∧
        K (.aU id off (len + n) cap) (H.set id (.cells (ai es (off + len * esz) ((ys.take (n * esz)).map AV.ae))))
     | _=>False
   | _,_=>False)
 | some ys=>sq esz ys∧match s with
   | .ah=>ys.length * bytes≤140737488355328∧(ys=[]→K .ah H)∧(ys≠[]→∀ cap,ys.length≤cap→cap < 9223372036854775808→
      ak (H.length + 1) ((flat ys).map AV.ae++cS z (cap - ys.length))=true∧K (.aU H.length 0 ys.length cap) (H++[.cells ((flat ys).map AV.ae++cS z (cap - ys.length))]))
   | .nC=>ys.length * bytes≤140737488355328∧(ys=[]→K .nC H)∧(ys≠[]→∀ cap,ys.length≤cap→cap < 9223372036854775808→
      ak (H.length + 1) ((flat ys).map AV.ae++cS z (cap - ys.length))=true∧K (.aU H.length 0 ys.length cap) (H++[.cells ((flat ys).map AV.ae++cS z (cap - ys.length))]))
   | .aU id off len cap=>match H[id]? with
     | some (.cells es)=>(len + ys.length) * bytes≤140737488355328∧len≤cap∧off + cap * esz≤es.length∧
        (len + ys.length≤cap→ak (lm id) ((flat ys).map AV.ae)=true∧K (.aU id off (len + ys.length) cap) (H.set id (.cells (ai es (off + len * esz) ((flat ys).map AV.ae)))))∧
        (cap < len + ys.length→∀ eC,len + ys.length≤eC→eC < 9223372036854775808→
          ak (H.length + 1) (((es.drop off).take (len * esz)).map AV.ae++(flat ys).map AV.ae++cS z (eC - (len + ys.length)))=true∧
          K (.aU H.length 0 (len + ys.length) eC) (H++[.cells (((es.drop off).take (len * esz)).map AV.ae++(flat ys).map AV.ae++cS z (eC - (len + ys.length)))]))
     | _=>False
   | _=>False
theorem Cc (esz bytes:Nat) (z s x:AV) (H:List aa) (K:AV→List aa→Prop):cT esz bytes z s x H K=jR (· + 1) esz bytes z s x H K:=rfl
def lq (lo esz bytes:Nat) (z s x:AV) (H:List aa) (K:AV→List aa→Prop):Prop:=
 (∀ id off len cap,s=.aU id off len cap→lo≤id)∧jR (fun _=>H.length) esz bytes z s x H K
def iM (esz:Nat) (z x:AV) (H:List aa) (K:List aa→Prop):Prop:=
 match x with
 | .aU id off len _=>match H[id]? with
   | some (.cells es)=>off + len * esz≤es.length∧(cS z len).all AV.one=true∧ak (id + 1) ((cS z len).map AV.ae)=true∧K (H.set id (.cells (ai es off ((cS z len).map AV.ae))))
   | _=>False
 | _=>False
section
variable {P:Program} {w:World} {M:Mem} {L:List Nat} {H:List aa} {A:Perm} {ev:Nat→Value} {ea:Nat→AV} {O:Pos→Option Nat}
theorem kP {α:Type} (es:List α) (off:Nat):ai es off []=es:=by simp [ai]
theorem St.Cd (hs:St A M L w H ev ea O) (cs:Array Value) (e:TypeId) {xs:List AV} (hr:aI M L cs.toList xs) (hb:ak (H.length + 1) xs=true) (hf:∀ y∈xs,∀ own zs,y=.al own zs→own=0) :
 St A M (L++[w.heap.size]) { w with heap:=w.heap.push (.cells cs e) } (H++[.cells xs]) ev ea O∧Ext A M w M { w with heap:=w.heap.push (.cells cs e) }:=
 hs.sj (.cells cs e) (.cells xs) (fun w' hw hM=>⟨_,e,hw,hr.mono (Mem.bO M) ⟨_,rfl⟩,hM⟩) (by simpa [aa.a8] using hb) (fun j=>by
  simp only [nH]
  refine bg.free ?_
  intro own zs hh
  rw [sc] at hh
  cases hx:xs[j]? with
  | none=>simp [hx] at hh
  | some y=>simp [hx] at hh;exact hf y (aaX hx) own zs hh)
theorem nQ (xs:List AV):∀ y∈xs.map AV.ae,∀ own zs,y=.al own zs→own=0:=by
 intro y hy own zs e
 obtain ⟨q,_,rfl⟩:=aag.1 hy
 exact AV.bL q own zs e
theorem EK {z:AV} (B5:∀ y∈z.cells,∀ own xs,y=.al own xs→own=0) (n:Nat):∀ y∈cS z n,∀ own zs,y=.al own zs→own=0:=by
 intro y hy own zs e
 simp only [cS,flat,adh] at hy
 obtain ⟨q,hq,Nn⟩:=hy
 rw [acV hq] at Nn
 subst e
 cases z <;> simp only [bQ,AV.cells] at Nn B5
 case agg ys=>
  obtain ⟨y',_,UT⟩:=aag.1 Nn
  exact AV.jD y' own zs UT
 all_goals exact B5 _ Nn own zs rfl
theorem HQ (hs:St A M L w H ev ea O) {t e:TypeId} (ht:P.underlying t=some (.slice e)) {esz:Nat} (he:dL P e=some esz) (h0:0 < esz) {z:AV} (hz:fG P e=some z) (hZ:z.cells.length=esz) (pq:z.val=true)
 {len:Nat} (hlen:len * esz≤16777216) {parts:List (Nat×AV)} {vs:Array (Nat×Value)} (hp:∀ (j:Nat) (p:Nat×AV),parts[j]?=some p→∃ v,vs.toList[j]?=some (p.1,v)∧aT M L v p.2) (hl:vs.toList.length=parts.length)
 {K:AV→List aa→Prop} (h:bj (List.replicate len (aP z)) esz parts fun xs=>tP xs H K) :
 ∃ r x L' w' H',(Instr.buildSlice t len vs).run P w=.ok r w'∧aT M L' r x∧(∀ own xs,x=.al own xs→own=0)∧K x H'∧St A M L' w' H' ev ea O∧Ext A M w M w'∧L <+: L':=by
 unfold fG at hz
 obtain ⟨ie,JP,db⟩:=yr.1 he
 simp only [JP] at hz
 split at hz
 ·rename_i zv so
  have B0:=(cJ (M:=M) (L:=L) hz).aP.gn (sn pq)
  have uO:zv.cells.size=esz:=by have:=B0.length;rw [fh,hZ] at this;simpa using this
  obtain ⟨cs',xs',f1,f2,f3,f4,f5⟩:=nO (M:=M) (L:=L) esz parts vs.toList hp hl (jM zv.cells esz len uO h0 (aP z) B0) (fun y hy=>by rw [acV hy,fh];exact hZ) h
  simp only [ab4] at f4
  obtain ⟨nD,hK⟩:=f5
  have bJ:(Instr.buildSlice t len vs).run P w=.ok (.slice (some ⟨w.heap.size,0,none⟩) len len) { w with heap:=w.heap.push (.cells cs' e) }:=by
   by_cases ns:len * ie.size=0
   ·have Ej:len=0:=by
     rcases Nat.mul_eq_zero.1 ns with h' | h'
     ·exact h'
     ·omega
    subst Ej
    have Ju:cs'=#[]:=by
     have:=f2.length
     rw [cK _ esz f3,f4] at this
     simp at this
     exact this
    have Vo:vs.toList=[]:=by
     cases xK:vs.toList with
     | nil=>rfl
     | cons q r=>
       rw [xK] at hl
       cases parts with
       | nil=>simp at hl
       | cons p ps=>obtain ⟨_,_,h3,_⟩:=h;simp at h3
    subst Ju
    have hf:Instr.fill (fun i=>some (i * ie.size,ie.size)) #[] vs.toList=some #[]:=by rw [Vo];rfl
    simp [Instr.buildSlice,run_underlying ht,sizeOf,typeInfo,JP,newRow,Vo,Instr.fill]
    congr 2
    apply Array.ext'
    simp
   ·rw [run_buildSlice w t e len vs cs' ie zv ht JP so (by rw [db];omega) ns (by rw [db];exact f1)]
    rfl
  obtain ⟨g1,g2⟩:=hs.Cd cs' e f2.df nD (nQ _)
  have hbd:len < 9223372036854775808:=by
   have:len≤len * esz:=acG _ h0
   omega
  refine ⟨_,.aU H.length 0 len len,_,_,_,bJ,.aU w.heap.size 0 _ _ H.length ?_ hbd,(by intro _ _ e;cases e),by rw [f4] at hK;exact hK,g1,g2,⟨_,rfl⟩⟩
  rw [aaN (by rw [hs.len];exact yo _),hs.len];simp
 ·cases hz
theorem qC (hs:St A M L w H ev ea O) {t ty e:TypeId} {i:TypeInfo} {zv:Value} {esz bytes:Nat} (ht:P.underlying t=some (.slice e)) (hi:P.info? e=some i) (hz:i.zero=some zv) (db:i.size=esz) (tN:i.bytes=bytes) (h0:0 < esz) (qt:0 < bytes)
 {z:AV} (Gn:ofValue zv=some z) (pq:z.val=true) (hZ:z.cells.length=esz) (B5:∀ y∈z.cells,∀ own xs,y=.al own xs→own=0) {u v:Value} {s x:AV} {K:AV→List aa→Prop} {lm:Nat→Nat} (hlm:∀ id off len cap,s=.aU id off len cap→id < H.length→lm id≤A.jd H.length id) (h:jR lm esz bytes z s x H K) (hu:aT M L u s) (hv:aT M L v x) :
 ∃ r y L' w' H' O',(Builtin.append_ #[t,t] ty #[u,v]).run P w=.ok r w'∧aT M L' r y∧(∀ own xs,y=.al own xs→own=0)∧K y H'∧St A M L' w' H' ev ea O'∧Ext A M w M w'∧L <+: L':=by
 unfold jR at h
 split at h
 ·-- out of an object
  rename_i hnone
  split at h <;> try exact h.elim
  rename_i id off len cap n ys vN
  split at h <;> try exact h.elim
  rename_i es bm
  obtain ⟨hny,kM,hroom,uE,nD,hK⟩:=h
  cases hu with
  | aU b _ _ _ _ hl hc=>
  obtain ⟨cs,e',h1,h2,h3⟩:=fB hs bm hl
  have je:=h2.length
  have xL:(len + n) * esz≤cap * esz:=acY _ hroom
  rw [abT] at xL
  unfold vM at vN
  split at vN
  ·simp [dB] at hnone
  ·simp [dB] at hnone
  ·rename_i id2 off2 Vz VA
   split at vN <;> try cases vN
   rename_i es2 Nq
   split at vN <;> cases vN
   rename_i hfit2
   cases hv with
   | aU b2 _ _ _ _ pi ma=>
   obtain ⟨cs2,e2,k1,k2,k3⟩:=fB hs Nq pi
   have aeN:=k2.length
   by_cases B4:n=0
   ·subst B4
    simp only [ad4,List.take_zero,List.map_nil,kP,adR] at hK
    have es':H.set id (.cells es)=H:=by
     obtain ⟨l9,e1⟩:=aaw.1 bm
     rw [← e1];simp
    rw [es'] at hK
    exact ⟨_,.aU id off len cap,L,w,H,O,dx ht hi w _ len cap (by omega) _ VA,.aU b off len cap id hl hc,(by intro _ _ e;cases e),hK,hs,Ext.refl A M w,aah L⟩
   ·have yA:((cs2.toList.drop off2).take (n * esz)).length=n * esz:=by
     rw [acN,adH];omega
    have hnews:∀ j u,((cs2.toList.drop off2).take (n * esz))[j]?=some u→w.cell? ((⟨b2,off2,none⟩:Addr).add j)=some u:=fun j u hu=>by
     rw [Addr.add_lit];exact k3 _ _ (dw _ _ _ _ _ hu)
    have z7:aI M L ((cs2.toList.drop off2).take (n * esz)) ((es2.drop off2).take (n * esz)):=(k2.drop off2).take _
    have VB:=z7.gN kM
    have bJ:=gr (P:=P) (ty:=ty) ht hi w b off len cap cs (0,0) h1 (oE _) ⟨b2,off2,none⟩ n VA ((cs2.toList.drop off2).take (n * esz)) (by rw [db];exact yA) hnews VB hroom (by
     have:es.length=cs.size:=by rw [← je];simp
     rw [db,yA];omega)
    rw [db] at bJ
    obtain ⟨O',g1,g2⟩:=hs.Ad (off:=off + len * esz) bm hl h1 h2 z7 (by rw [acN,adH];omega) (bu (hlm _ _ _ _ rfl (aM bm)) _ nD)
    exact ⟨_,.aU id off (len + n) cap,L,_,_,O',bJ,.aU b off _ cap id hl hc,(by intro _ _ e;cases e),hK,g1,g2,aah L⟩
  ·cases vN
 rename_i ys qv
 obtain ⟨jv,h⟩:=h
 have B0:=(cJ (M:=M) (L:=L) Gn).bQ.gn (pM pq)
 have uO:zv.cells.size=esz:=by have:=B0.length;rw [jz,hZ] at this;simpa using this
 have hesz0:esz≠0:=by omega
 have JY:∀ n,aI M L (Builtin.zeroCells zv.cells n).toList (cS z n):=fun n=>by
  have:=jM (M:=M) (L:=L) zv.cells esz n uO h0 (bQ z) B0
  rw [Builtin.zeroCells,uO]
  rw [uO] at this
  exact this
 -- a new row
 have grow:∀ (olds news:List Value) (xs:List AV) (k need oldCap:Nat) (w':World),aI M L olds xs→aI M L news (flat ys)→need≤maxLen→
  w'=w.drew.alloc (.cells (olds.toArray++news.toArray++Builtin.zeroCells zv.cells (grownCap w need oldCap e - need)) e)→
  (Builtin.append_ #[t,t] ty #[u,v]).run P w=.ok (.slice (some ⟨w.heap.size,0,none⟩) need (grownCap w need oldCap e)) w'→
  (∀ eC,need≤eC→eC < 9223372036854775808→ak (H.length + 1) (xs.map AV.ae++(flat ys).map AV.ae++cS z (eC - need))=true∧K (.aU H.length 0 need eC) (H++[.cells (xs.map AV.ae++(flat ys).map AV.ae++cS z (eC - need))]))→
  ∃ r y L' w' H' O',(Builtin.append_ #[t,t] ty #[u,v]).run P w=.ok r w'∧aT M L' r y∧(∀ own xs,y=.al own xs→own=0)∧K y H'∧St A M L' w' H' ev ea O'∧Ext A M w M w'∧L <+: L':=by
  intro olds news xs k need oldCap w' Vs z7 hneed JS bJ hK
  have iR:=grownCap_ge w need oldCap e
  have hle:=grownCap_le_maxLen w need oldCap e hneed
  simp only [maxLen] at hle
  obtain ⟨nD,hK⟩:=hK _ iR (by omega)
  obtain ⟨g1,g2⟩:=hs.drew.Cd (olds.toArray++news.toArray++Builtin.zeroCells zv.cells (grownCap w need oldCap e - need)) e (xs:=xs.map AV.ae++(flat ys).map AV.ae++cS z (grownCap w need oldCap e - need))
   (by rw [ad8,ad8];exact (Vs.df.append z7.df).append (JY _)) nD (by
     intro y hy
     rcases abf.1 hy with hy | hy
     ·rcases abf.1 hy with hy | hy
      ·exact nQ _ y hy
      ·exact nQ _ y hy
     ·exact EK B5 _ y hy)
  subst JS
  refine ⟨_,.aU H.length 0 need (grownCap w need oldCap e),L++[w.heap.size],_,_,O,bJ,.aU w.heap.size 0 _ _ H.length ?_ (by omega),(by intro _ _ e;cases e),hK,g1,Ext.drew.trans g2,⟨_,rfl⟩⟩
  rw [aaN (by rw [hs.len];exact yo _),hs.len];simp
 split at h <;> try exact h.elim
 ·-- onto nothing
  obtain ⟨hbound,hn,hc⟩:=h
  cases hu
  rcases l8 qv jv hv with ⟨rfl,b',c',rfl⟩ | ⟨B4,b2,o2,c2,news,rfl,z7,RD,yA⟩
  ·exact ⟨_,.ah,L,w,H,O,dx ht hi w none 0 0 (yo _) b' c',.ah,(by intro _ _ e;cases e),hn rfl,hs,Ext.refl A M w,aah L⟩
  ·have hnews:∀ j u,news[j]?=some u→w.cell? ((⟨b2,o2,none⟩:Addr).add j)=some u:=iC RD hs.mem
   have hlen:ys.length≤140737488355328:=abY (acG _ qt) hbound
   have hbound':ys.length * i.bytes≤140737488355328:=by rw [tN];exact hbound
   have hr:=run_append_nil (P:=P) w t ty e i zv ht hi hz ⟨b2,o2,none⟩ ys.length c2 news (by rw [db];exact yA) hnews B4 (by omega) (by first | omega | (simp at hbound';omega))
   refine grow [] news [] 0 ys.length 0 _ .nil z7 (by simp only [maxLen];omega) rfl (by simpa using hr) fun eC h1 h2=>?_
   have:=hc (by intro e;rw [e] at B4;simp at B4) eC h1 h2
   simpa using this
 ·-- onto what is empty
  obtain ⟨hbound,hn,hc⟩:=h
  cases hu with
  | nC ad=>
  rcases l8 qv jv hv with ⟨rfl,b',c',rfl⟩ | ⟨B4,b2,o2,c2,news,rfl,z7,RD,yA⟩
  ·exact ⟨_,.nC,L,w,H,O,dx ht hi w ad 0 0 (yo _) b' c',.nC _,(by intro _ _ e;cases e),hn rfl,hs,Ext.refl A M w,aah L⟩
  ·have hnews:∀ j u,news[j]?=some u→w.cell? ((⟨b2,o2,none⟩:Addr).add j)=some u:=iC RD hs.mem
   have hlen:ys.length≤140737488355328:=abY (acG _ qt) hbound
   have hbound':ys.length * i.bytes≤140737488355328:=by rw [tN];exact hbound
   have hK:∀ eC,ys.length≤eC→eC < 9223372036854775808→ak (H.length + 1) (([]:List AV).map AV.ae++(flat ys).map AV.ae++cS z (eC - ys.length))=true∧K (.aU H.length 0 ys.length eC) (H++[.cells (([]:List AV).map AV.ae++(flat ys).map AV.ae++cS z (eC - ys.length))]):=fun eC h1 h2=>by
    have:=hc (by intro e;rw [e] at B4;simp at B4) eC h1 h2
    simpa using this
   cases ad with
   | none=>
     have hr:=run_append_nil (P:=P) w t ty e i zv ht hi hz ⟨b2,o2,none⟩ ys.length c2 news (by rw [db];exact yA) hnews B4 (by omega) (by first | omega | (simp at hbound';omega))
     exact grow [] news [] 0 ys.length 0 _ .nil z7 (by simp only [maxLen];omega) rfl (by simpa using hr) hK
   | some ad=>
     have hr:=run_append_grow (P:=P) w t ty e i zv ht hi hz ad 0 0 [] (by simp) (fun j v hv=>by simp at hv)
      ⟨b2,o2,none⟩ ys.length c2 news (by rw [db];exact yA) hnews (by omega) (by omega) (growslice_fits (by omega) (by simpa using hbound'))
     simp only [abw] at hr
     exact grow [] news [] 0 ys.length 0 _ .nil z7 (by simp only [maxLen];omega) rfl hr hK
 ·rename_i id off len cap
  split at h <;> try exact h.elim
  rename_i es bm
  obtain ⟨hbound,yy,uE,xO,JG⟩:=h
  cases hu with
  | aU b _ _ _ _ hl hc=>
  obtain ⟨cs,e',h1,h2,h3⟩:=fB hs bm hl
  have je:=h2.length
  rcases l8 qv jv hv with ⟨rfl,b',c',rfl⟩ | ⟨B4,b2,o2,c2,news,rfl,z7,RD,yA⟩
  ·obtain ⟨_,hK⟩:=xO (by simpa using yy)
   simp only [flat,adZ,List.map_nil,kP,List.length_nil,adR] at hK
   have es':H.set id (.cells es)=H:=by
    obtain ⟨l9,e1⟩:=aaw.1 bm
    rw [← e1];simp
   rw [es'] at hK
   exact ⟨_,.aU id off len cap,L,w,H,O,dx ht hi w _ len cap yy b' c',.aU b off len cap id hl hc,(by intro _ _ e;cases e),hK,hs,Ext.refl A M w,aah L⟩
  ·have hnews:∀ j u,news[j]?=some u→w.cell? ((⟨b2,o2,none⟩:Addr).add j)=some u:=iC RD hs.mem
   have kM:=z7.gN (B2 jv)
   have Np:(flat ys).length=ys.length * esz:=cK ys esz (fun y hy=>(jv y hy).1)
   by_cases hroom:len + ys.length≤cap
   ·obtain ⟨nD,hK⟩:=xO hroom
    have xL:(len + ys.length) * esz≤cap * esz:=acY _ hroom
    rw [abT] at xL
    have aeO:es.length=cs.size:=by rw [← je];simp
    have bJ:=gr (P:=P) (ty:=ty) ht hi w b off len cap cs (0,0) h1 (oE _) ⟨b2,o2,none⟩ ys.length c2 news (by rw [db];exact yA) hnews kM hroom (by rw [db,yA];omega)
    rw [db] at bJ
    obtain ⟨O',g1,g2⟩:=hs.Ad (off:=off + len * esz) bm hl h1 h2 z7 (by rw [Np];omega) (bu (hlm _ _ _ _ rfl (aM bm)) _ nD)
    exact ⟨_,.aU id off (len + ys.length) cap,L,_,_,O',bJ,.aU b off _ cap id hl hc,(by intro _ _ e;cases e),hK,g1,g2,aah L⟩
   ·have hlen:(len + ys.length)≤140737488355328:=abY (acG _ qt) hbound
    have hbound':(len + ys.length) * i.bytes≤140737488355328:=by rw [tN];exact hbound
    have xL:len * esz≤cap * esz:=acY _ yy
    have Z4:((cs.toList.drop off).take (len * esz)).length=len * esz:=by rw [acN,adH];omega
    have hr:=run_append_grow (P:=P) w t ty e i zv ht hi hz ⟨b,off,none⟩ len cap ((cs.toList.drop off).take (len * esz)) (by rw [db];exact Z4) (fun j v hv=>by rw [Addr.add_lit];exact h3 _ _ (dw _ _ _ _ _ hv))
     ⟨b2,o2,none⟩ ys.length c2 news (by rw [db];exact yA) hnews (by omega) (by omega) (growslice_fits (by omega) hbound')
    exact grow _ news ((es.drop off).take (len * esz)) 0 (len + ys.length) cap _ ((h2.drop off).take _) z7 (by simp only [maxLen];omega) rfl hr fun eC a b=>JG (by omega) eC a b
theorem Af (hs:St A M L w H ev ea O) {t ty e:TypeId} {i:TypeInfo} {zv:Value} {esz bytes:Nat} (ht:P.underlying t=some (.slice e)) (hi:P.info? e=some i) (hz:i.zero=some zv) (db:i.size=esz) (tN:i.bytes=bytes) (h0:0 < esz) (qt:0 < bytes)
 {z:AV} (Gn:ofValue zv=some z) (pq:z.val=true) (hZ:z.cells.length=esz) (B5:∀ y∈z.cells,∀ own xs,y=.al own xs→own=0) {u v:Value} {s x:AV} {K:AV→List aa→Prop} (h:cT esz bytes z s x H K) (hu:aT M L u s) (hv:aT M L v x) :
 ∃ r y L' w' H' O',(Builtin.append_ #[t,t] ty #[u,v]).run P w=.ok r w'∧aT M L' r y∧(∀ own xs,y=.al own xs→own=0)∧K y H'∧St A M L' w' H' ev ea O'∧Ext A M w M w'∧L <+: L':=by
 rw [Cc] at h
 exact qC (ty:=ty) hs ht hi hz db tN h0 qt Gn pq hZ B5 (fun id _ _ _ _ bm=>A.kJ bm) h hu hv
theorem Ag {lo:Nat} (uD:∀ id,lo≤id→A.top id=none) (hs:St A M L w H ev ea O) {t ty e:TypeId} {i:TypeInfo} {zv:Value} {esz bytes:Nat} (ht:P.underlying t=some (.slice e)) (hi:P.info? e=some i) (hz:i.zero=some zv) (db:i.size=esz) (tN:i.bytes=bytes) (h0:0 < esz) (qt:0 < bytes)
 {z:AV} (Gn:ofValue zv=some z) (pq:z.val=true) (hZ:z.cells.length=esz) (B5:∀ y∈z.cells,∀ own xs,y=.al own xs→own=0) {u v:Value} {s x:AV} {K:AV→List aa→Prop} (h:lq lo esz bytes z s x H K) (hu:aT M L u s) (hv:aT M L v x) :
 ∃ r y L' w' H' O',(Builtin.append_ #[t,t] ty #[u,v]).run P w=.ok r w'∧aT M L' r y∧(∀ own xs,y=.al own xs→own=0)∧K y H'∧St A M L' w' H' ev ea O'∧Ext A M w M w'∧L <+: L':=by
 refine qC (ty:=ty) hs ht hi hz db tN h0 qt Gn pq hZ B5 (fun id off len cap e bm=>?_) h.2 hu hv
 have:A.jd H.length id=H.length:=by unfold Perm.jd;rw [uD id (h.1 _ _ _ _ e)]
 rw [this];exact yo _
theorem Ce (hs:St A M L w H ev ea O) {t e:TypeId} {i:TypeInfo} {zv:Value} {esz:Nat} (ht:P.underlying t=some (.slice e)) (hi:P.info? e=some i) (hz:i.zero=some zv) (h0:0 < esz)
 {z:AV} (Gn:ofValue zv=some z) (pq:z.val=true) (hZ:z.cells.length=esz) {v:Value} {x:AV} {K:List aa→Prop} (h:iM esz z x H K) (hv:aT M L v x) (ty:TypeId) :
 ∃ w' H' O',(Builtin.clear_ #[t] ty #[v]).run P w=.ok (.tuple #[]) w'∧K H'∧St A M L w' H' ev ea O'∧Ext A M w M w':=by
 unfold iM at h
 split at h <;> try exact h.elim
 rename_i id off len cap
 split at h <;> try exact h.elim
 rename_i es bm
 obtain ⟨uE,kM,nD,hK⟩:=h
 cases hv with
 | aU b _ _ _ _ hl hc=>
 have B0:=(cJ (M:=M) (L:=L) Gn).bQ.gn (pM pq)
 have uO:zv.cells.size=esz:=by have:=B0.length;rw [jz,hZ] at this;simpa using this
 have JY:aI M L (Builtin.zeroCells zv.cells len).toList (cS z len):=by
  have:=jM (M:=M) (L:=L) zv.cells esz len uO h0 (bQ z) B0
  rw [Builtin.zeroCells,uO]
  rw [uO] at this
  exact this
 obtain ⟨cs,e',h1,h2,h3⟩:=hs.obj id _ b bm hl
 have je:=h2.length
 have uN:(cS z len).length=len * esz:=by
  unfold cS
  rw [cK _ esz (fun y hy=>by rw [acV hy,jz];exact hZ),ab4]
 have qq:=JY.length
 by_cases Ej:len=0
 ·subst Ej
  have e0:cS z 0=[]:=rfl
  rw [e0] at hK
  simp only [List.map_nil,kP] at hK
  have es':H.set id (.cells es)=H:=by
   obtain ⟨l9,e1⟩:=aaw.1 bm
   rw [← e1];simp
  rw [es'] at hK
  refine ⟨w,H,O,?_,hK,hs,Ext.refl A M w⟩
  simp [Builtin.clear_,run_underlying ht]
 ·have bP:=run_storeCells_at P b off e' (Builtin.zeroCells zv.cells len).toList 0 cs w h1 (by simp at je ⊢;simp at qq;omega) (JY.gN kM)
  obtain ⟨O',g1,g2⟩:=hs.JV (off:=off) bm hl h1 h2 JY (by omega) nD
  refine ⟨_,_,O',?_,hK,g1,g2⟩
  have mb:(storeCells ⟨b,off,none⟩ (Builtin.zeroCells zv.cells len).toList).run P w=.ok () (w.setRow b (ai cs.toList off (Builtin.zeroCells zv.cells len).toList).toArray):=by simpa [ai] using bP
  have hzero:(zeroValue e).run P w=.ok zv w:=by simp [zeroValue,typeInfo,hi,hz]
  have ns:∃ m,len=m + 1:=⟨len - 1,by omega⟩
  obtain ⟨m,rfl⟩:=ns
  simp [Builtin.clear_,run_underlying ht,hzero,mb]
end
end Go.aJ
end
section
namespace Go.aJ
open Go
def Perm.entry (A:Perm) (loose:Bool) (n:Nat):Prop:=(∀ id,id < n→∃ m,m≤n∧A.top id=some m)∧∀ id,n≤id→A.top id=if loose=true then none else some (id + 1)
def kQ (loose:Bool) (P:Program) (f:FuncId) (args:List AV) (H:List aa) (R:AV→List aa→Prop):Prop:=
 ∀ A M L w (vs:Array Value) O,A.entry loose H.length→vs.size=args.length→St A M L w H (fun t=>vs.getD t undef) (fun t=>args.getD t .any) O→
  ((callFunc f vs).run P w=.ok (.enter f vs) w∧Calls P f vs w fun e w'=>∃ v r H' M' L' O',e=.returned v∧R r H'∧St A M' L' w' H' (fF (fun _=>undef) 0 v) (fF (fun _=>.any) 0 r) O'∧Ext A M w M' w'∧L <+: L')∨
  (∃ v w' r H' M' L' O',(callFunc f vs).run P w=.ok (.value v) w'∧R r H'∧St A M' L' w' H' (fF (fun _=>undef) 0 v) (fF (fun _=>.any) 0 r) O'∧Ext A M w M' w'∧L <+: L')
def aw (P:Program) (f:FuncId) (args:List AV) (H:List aa) (R:AV→List aa→Prop):Prop:=kQ false P f args H R
def uR (P:Program) (f:FuncId) (args:List AV) (H:List aa) (R:AV→List aa→Prop):Prop:=kQ true P f args H R
theorem kQ.mono {b:Bool} {P:Program} {f:FuncId} {args:List AV} {H:List aa} {R R':AV→List aa→Prop} (h:kQ b P f args H R) (hr:∀ r H',R r H'→R' r H'):kQ b P f args H R':=by
 intro A M L w vs O hA hs bP
 rcases h A M L w vs O hA hs bP with ⟨h1,h2⟩ | ⟨v,w',r,H',M',L',O',h1,h2,h3⟩
 ·exact .inl ⟨h1,h2.mono fun e w' ⟨v,r,H',M',L',O',h1,h2,h3⟩=>⟨v,r,H',M',L',O',h1,hr _ _ h2,h3⟩⟩
 ·exact .inr ⟨v,w',r,H',M',L',O',h1,hr _ _ h2,h3⟩
theorem aw.mono {P:Program} {f:FuncId} {args:List AV} {H:List aa} {R R':AV→List aa→Prop} (h:aw P f args H R) (hr:∀ r H',R r H'→R' r H'):aw P f args H R':=kQ.mono h hr
theorem uR.mono {P:Program} {f:FuncId} {args:List AV} {H:List aa} {R R':AV→List aa→Prop} (h:uR P f args H R) (hr:∀ r H',R r H'→R' r H'):uR P f args H R':=kQ.mono h hr
theorem aw.body {P:Program} {f:FuncId} {args:List AV} {H:List aa} {R:AV→List aa→Prop} (h:aw P f args H R) (he:∀ (as:Array Value) (w:World),(callFunc f as).run P w=.ok (.enter f as) w)
 {A:Perm} {M:Mem} {L:List Nat} {w:World} {vs:Array Value} {O:Pos→Option Nat} (hA:A.entry false H.length) (hs:vs.size=args.length) (bP:St A M L w H (fun t=>vs.getD t undef) (fun t=>args.getD t .any) O) :
 Calls P f vs w fun e w'=>∃ v r H' M' L' O',e=.returned v∧R r H'∧St A M' L' w' H' (fF (fun _=>undef) 0 v) (fF (fun _=>.any) 0 r) O'∧Ext A M w M' w'∧L <+: L':=by
 rcases h A M L w vs O hA hs bP with ⟨h1,h2⟩ | ⟨v,w',r,H',M',L',O',h1,h2,h3⟩
 ·exact h2
 ·rw [he] at h1;cases h1
structure Px where
 prog:Program
 lo:Option Nat
instance:Coe Program Px:=⟨fun P=>⟨P,none⟩⟩
def dW (P:Px) (f:FuncId) (args:List AV) (H:List aa) (R:AV→List aa→Prop):Prop:=
 match P.lo with
 | none=>aw P.prog f args H R
 | some l=>aw P.prog f args H R∨(l≤H.length∧uR P.prog f args H R)
theorem dW.of {P:Px} {f:FuncId} {args:List AV} {H:List aa} {R:AV→List aa→Prop} (h:aw P.prog f args H R):dW P f args H R:=by
 unfold dW;split
 ·exact h
 ·exact .inl h
theorem dW.mono {P:Px} {f:FuncId} {args:List AV} {H:List aa} {R R':AV→List aa→Prop} (h:dW P f args H R) (hr:∀ r H',R r H'→R' r H'):dW P f args H R':=by
 unfold dW at *;split at h
 ·exact h.mono hr
 ·rcases h with h | ⟨h1,h2⟩
  ·exact .inl (h.mono hr)
  ·exact .inr ⟨h1,h2.mono hr⟩
def fE (loose:Bool) (P:Program) (id:Nat) (args:List AV) (H:List aa) (R:AV→List aa→Prop):Prop:=
 ∀ A M L w (vs:Array Value) O b,A.entry loose H.length→vs.size=args.length→L[id]?=some b→St A M L w H (fun t=>vs.getD t undef) (fun t=>args.getD t .any) O→
  ∃ fn tmps as bd,(Instr.yield b vs).run P w=.ok (.round b fn tmps as bd) w∧RoundIn Fence.wide 0 P b fn tmps as bd w fun e w'=>
   ∃ v r H' M' L' O',e=.returned v∧R r H'∧St A M' L' w' H' (fF (fun _=>undef) 0 v) (fF (fun _=>.any) 0 r) O'∧Ext A M w M' w'∧L <+: L'
theorem fE.mono {b:Bool} {P:Program} {id:Nat} {args:List AV} {H:List aa} {R R':AV→List aa→Prop} (h:fE b P id args H R) (hr:∀ r H',R r H'→R' r H'):fE b P id args H R':=by
 intro A M L w vs O c hA hs hc bP
 obtain ⟨fn,tmps,as,bd,h1,h2⟩:=h A M L w vs O c hA hs hc bP
 exact ⟨fn,tmps,as,bd,h1,h2.mono fun e w' ⟨v,r,H',M',L',O',h1,h2,h3⟩=>⟨v,r,H',M',L',O',h1,hr _ _ h2,h3⟩⟩
def jS (P:Program) (id:Nat) (args:List AV) (H:List aa) (R:AV→List aa→Prop):Prop:=fE false P id args H R
def Nr (P:Program) (id:Nat) (args:List AV) (H:List aa) (R:AV→List aa→Prop):Prop:=fE true P id args H R
def me (P:Px) (id:Nat) (args:List AV) (H:List aa) (R:AV→List aa→Prop):Prop:=
 match P.lo with
 | none=>jS P.prog id args H R
 | some l=>jS P.prog id args H R∨(l≤H.length∧Nr P.prog id args H R)
theorem me.mono {P:Px} {id:Nat} {args:List AV} {H:List aa} {R R':AV→List aa→Prop} (h:me P id args H R) (hr:∀ r H',R r H'→R' r H'):me P id args H R':=by
 unfold me at *;split at h
 ·exact fE.mono h hr
 ·rcases h with h | ⟨h1,h2⟩
  ·exact .inl (fE.mono h hr)
  ·exact .inr ⟨h1,fE.mono h2 hr⟩
def xP:List AV→List AV→Prop
 | [],[]=>True
 | x::xs,y::ys=>x.le y∧xP xs ys
 | _,_=>False
def aH (env:Env) (pass:Option Nat):Nat→List IX→List AV
 | _,[]=>[]
 | j,.t s::xs=>(if pass=some j then get env s else (get env s).ae)::aH env pass (j + 1) xs
 | j,.c v::xs=>v.ae::aH env pass (j + 1) xs
def bh (args:List IX) (pass:Option Nat):Option Nat:=
 match pass with
 | some j=>match args[j]? with
   | some (.t s)=>some s
   | _=>none
 | none=>none
def cP (env:Env) (s:Option Nat):Env:=match s with | some d=>(d,(get env d).ae)::env | none=>env
def pw (P:Px) (f:AV) (args:List IX) (pass:Option Nat) (env:Env) (H:List aa) (K:AV→Env→List aa→Prop):Prop:=
 match f with
 | .fn (.func g) first cap=>∃ bR,xP (first.map AV.ae++aH env pass 0 args++cap.map AV.ae) bR∧dW P g bR H (fun r H'=>K r (cP env (bh args pass)) H')
 | .nF id=>∃ bR,xP (aH env pass 0 args) bR∧me P id bR H (fun r H'=>K r (cP env (bh args pass)) H')
 | _=>False
def aN (kd:Nat) (x:AV):Prop:=
 match kd,x with
 | 0,.str _=>True
 | 1,.ah=>True
 | 1,.al _ _=>True
 | 1,.aU _ _ _ _=>True
 | 1,.nC=>True
 | 2,.jf=>True
 | 2,.map _=>True
 | _,_=>False
def gS (env:Env) (x:Option IX):Option AV:=x.map (au env)
def bp (P:Px) (o:bZ) (dst:Option Nat) (env:Env) (H:List aa) (K:Env→List aa→Prop):Prop:=
 match o with
 | .set x take=>match dst with | some d=>K (uB env d x take) H | none=>K env H
 | .pick c a b=>fc (au env c) fun q=>(q=true→K (put dst (au env a).ae env) H)∧(q=false→K (put dst (au env b).ae env) H)
 | .bin op x y=>di op (au env x) (au env y) fun z=>K (put dst z env) H
 | .shift op x y=>dT op (au env x) (au env y) fun z=>K (put dst z env) H
 | .iB neq x y=>da neq (au env x) (au env y) fun z=>K (put dst z env) H
 | .ju kd neq x=>dl kd neq (au env x) fun z=>K (put dst z env) H
 | .un op x=>zZ op (au env x) fun z=>K (put dst z env) H
 | .box x=>(au env x).val=true∧ak (H.length + 1) ((au env x).cells.map AV.ae)=true∧K (put dst (.ptr H.length 0) env) (H++[.cells ((au env x).cells.map AV.ae)])
 | .lY x=>(au env x).val=true∧K (put dst (.aj (au env x)) env) H
 | .sk m x=>(au env x).val=true∧(au env x).cells.length=m∧(au env x).cells.all AV.one=true∧K (put dst (.aj (au env x)) env) H
 | .alloc z=>ak (H.length + 1) (z.cells.map AV.ae)=true∧K (put dst (.ptr H.length 0) env) (H++[.cells (z.cells.map AV.ae)])
 | .build z ps=>b7 z.cells (ps.map fun q=>(q.1,q.2.1,au env q.2.2)) fun v=>K (put dst v env) H
 | .buildSlice own esz z len ps=>bj (List.replicate len (aP z)) esz (ps.map fun q=>(q.1,au env q.2)) fun xs=>K (put dst (.al own xs) env) H
 | .load sz a=>aV sz (au env a) H fun z=>K (put dst z env) H
 | .tG sz esz a=>aV sz (au env a) H fun z=>fH esz z H fun y H'=>K (put dst y env) H'
 | .eH a=>match dst,au env a with
   | some d,.ptr id off=>match H[id]? with
     | some (.cells es)=>off < es.length∧K ((d,es.getD off .any)::env) (H.set id (.cells (es.set off (es.getD off .any).ae)))
     | _=>False
   | _,_=>False
 | .store m a x=>iD m (au env a) (au env x) H fun H'=>K env H'
 | .nI m a x=>match P.lo with | some l=>gQ l m (au env a) (au env x) H fun H'=>K env H' | none=>False
 | .fy a s=>dU (au env a) (get env s) H fun H'=>K ((s,(get env s).ae)::env) H'
 | .nilCheck x=>bU (au env x) fun z=>K (put dst z env) H
 | .fieldAddr off sz x=>aq off sz (au env x) fun z=>K (put dst z env) H
 | .field off sz x=>fe off sz (au env x) fun z=>K (put dst z env) H
 | .indexAddr esz x i=>(∀ own xs,au env x=.al own xs→∀ z∈xs,z.cells.length=esz)∧aC esz (au env x) (au env i) fun z=>K (put dst z env) H
 | .dj x i=>bK (au env x) (au env i) fun z=>K (put dst z env) H
 | .dR n x i=>bT n (au env x) (au env i) fun z=>K (put dst z env) H
 | .pL esz x lo hi mx=>(∀ own xs,au env x=.al own xs→∀ z∈xs,z.cells.length=esz)∧fN esz (au env x) (gS env lo) (gS env hi) (gS env mx) fun z=>z=.al esz []∧K (put dst .nC env) H
 | .slice esz x lo hi mx=>bD esz (au env x) (gS env lo) (gS env hi) (gS env mx) fun z=>K (put dst z env) H
 | .copy esz d s=>jP esz (au env d) (au env s) H fun z H'=>K (put dst z env) H'
 | .dS x lo hi=>cj (au env x) (gS env lo) (gS env hi) fun z=>K (put dst z env) H
 | .len kd x=>aN kd (au env x)∧fz (au env x) H fun z=>K (put dst z env) H
 | .append esz bytes s x=>bw esz bytes (au env s) (au env x) fun zs=>K (put dst (.al esz zs) (cP env s.slot)) H
 | .tH esz bytes z n=>gv esz bytes z (au env n) H fun v H'=>K (put dst v env) H'
 | .nJ esz bytes n=>ji esz bytes (au env n) fun v=>K (put dst v env) H
 | .nK=>K (put dst (.map H.length) env) (H++[.map []])
 | .lookup kd z m k ok=>ct kd z (au env m) (au env k) ok H fun v=>K (put dst v env) H
 | .kL kd m k x=>fD kd (au env m) (au env k) (au env x) H fun H'=>K env H'
 | .fn f first cap=>K (put dst (.fn f (first.map fun x=>(au env x).ae) (cap.map fun x=>(au env x).ae)) env) H
 | .extract x i=>bG (au env x) i fun z=>K (put dst z env) H
 | .call f args pass=>pw P (au env f) args pass env H fun r aF H'=>K (put dst r aF) H'
 | .eV k x=>cC k (au env x) fun z=>K (put dst z env) H
 | .gO x=>fQ (au env x) fun z=>K (put dst z env) H
 | .bytesOf x=>fm 1 (au env x) fun z=>K (put dst z env) H
 | .strOf x=>jN (au env x) fun z=>K (put dst z env) H
 | .mx big a b=>xG big (au env a) (au env b) fun z=>K (put dst z env) H
 | .zX esz x=>fH esz (au env x) H fun z H'=>K (put dst z env) H'
 | .BT esz z len ps=>bj (List.replicate len (aP z)) esz (ps.map fun q=>(q.1,au env q.2)) fun xs=>tP xs H fun v H'=>K (put dst v env) H'
 | .jy esz bytes z s x=>cT esz bytes z (au env s) (au env x) H fun v H'=>K (put dst v env) H'
 | .kr esz bytes z s x=>match P.lo with | some l=>lq l esz bytes z (au env s) (au env x) H fun v H'=>K (put dst v env) H' | none=>False
 | .nL esz z x=>iM esz z (au env x) H fun H'=>K (put dst (.tuple []) env) H'
 | .never=>False
def cp (P:Program) (e:TypeId):Option (Nat×AV):=
 match dL P e,fG P e with
 | some esz,some z=>if 0 < esz∧z.cells.length=esz∧z.val=true then some (esz,z) else none
 | _,_=>none
def vP (P:Program) (e:TypeId):Option Nat:=(P.info? e).map (·.bytes)
def vQ (z:AV):Bool:=z.cells.all fun y=>match y with | .al own _=>own == 0 | _=>true
def kw:Option Operand→Option (Option IX)
 | none=>some none
 | some x=>(aQ x).map some
def JZ (x y:Operand):Bool:=match x,y with | .tmp a,.tmp b=>a == b | .const (.int .i64 a),.const (.int .i64 b)=>a == b | _,_=>false
def cw (P:Program) (o:Oper) (fl:Nat):Option bZ:=
 match o.op with
 | .move x | .assign x=>(aQ x).map fun i=>.set i (fl == 1)
 | .pick c a b=>match aQ c,aQ a,aQ b with
   | some c,some a,some b=>some (.pick c a b)
   | _,_,_=>none
 | .binOp op t x y _=>match aQ x,aQ y with
   | some i,some j=>match op with
     | .shl | .shr=>some (.shift op i j)
     | .eql | .neq=>match P.underlying t with
       | some .bool=>some (.iB (op matches .neq) i j)
       | some (.int _) | some .string=>some (.bin op i j)
       | some (.slice _)=>match y with | .const (.slice none 0 0)=>some (.ju 0 (op matches .neq) i) | _=>none
       | some (.pointer _)=>match y with | .const (.pointer none)=>some (.ju 1 (op matches .neq) i) | _=>none
       | some (.map _ _)=>match y with | .const (.map none)=>some (.ju 2 (op matches .neq) i) | _=>none
       | some (.func _ _ _)=>match y with | .const .nilFunc=>some (.ju 3 (op matches .neq) i) | _=>none
       | _=>none
     | _=>some (.bin op i j)
   | _,_=>none
 | .unOp op _ x=>(aQ x).map fun i=>.un op i
 | .box _ x=>(aQ x).map fun i=>if fl=1 then .lY i else .box i
 | .alloc e=>match fG P e with
   | some z=>if z.val=true then some (.alloc z) else none
   | none=>none
 | .build t ps=>match EA P t with
   | some (z,places)=>match fC places ps.toList with
     | some qs=>if z.val=true then some (.build z qs) else none
     | none=>none
   | none=>none
 | .buildSlice t len ps=>match P.underlying t with
   | some (.slice e)=>match cp P e,jL ps.toList with
     | some (esz,z),some qs=>if len * esz≤16777216 then some (if fl=2 then .BT esz z len qs else .buildSlice (if fl=1 then esz else 0) esz z len qs) else none
     | _,_=>none
   | _=>none
 | .load t a=>match Jt P t,aQ a with
   | some sz,some i=>if fl=1 then (if sz=none then some (.eH i) else none) else if 3000 < fl then some (.tG sz (fl - 3000) i) else some (.load sz i)
   | _,_=>none
 | .store t a x=>match dL P t,aQ a,aQ x with
   | some m,some i,some j=>if fl=1 then (match j with | .t s=>if m=1 then some (.fy i s) else none | _=>none) else if fl=2 then some (.nI m i j) else some (.store m i j)
   | _,_,_=>none
 | .nilCheck x=>(aQ x).map .nilCheck
 | .fieldAddr s x f=>match sm P s f,aQ x with
   | some (off,sz),some i=>some (.fieldAddr off sz i)
   | _,_=>none
 | .field s x f=>match sm P s f,aQ x with
   | some (off,sz),some i=>some (.field off sz i)
   | _,_=>none
 | .indexAddr t x i=>match P.underlying t,aQ x,aQ i with
   | some (.slice e),some j,some k=>(dL P e).map fun esz=>.indexAddr esz j k
   | _,_,_=>none
 | .index t x i=>match P.underlying t,aQ x,aQ i with
   | some .string,some j,some k=>some (.dj j k)
   | some (.array n e),some j,some k=>if Jt P e=some none then some (.dR n j k) else none
   | _,_,_=>none
 | .slice t x lo hi mx=>match P.underlying t,aQ x,kw lo,kw hi,kw mx with
   | some (.slice e),some i,some l,some h,some m=>match dL P e with
     | some esz=>if 0 < esz then some (if fl=4 then .pL esz i l h m else .slice esz i l h m) else none
     | none=>none
   | some .string,some i,some l,some h,some none=>some (.dS i l h)
   | _,_,_,_,_=>none
 | .makeSlice t l c=>match P.underlying t,aQ c with
   | some (.slice e),some k=>match cp P e,vP P e with
     | some (esz,z),some bytes=>if 0 < bytes∧vQ z=true then (match l with
        | .const (.int .i64 0)=>some (.nJ esz bytes k)
        | _=>if JZ l c=true then some (.tH esz bytes z k) else none) else none
     | _,_=>none
   | _,_=>none
 | .makeMap _ none=>some .nK
 | .lookup t m k ok=>match P.underlying t,aQ m,aQ k with
   | some (.map kt et),some i,some j=>match oG P kt,fG P et with
     | some kd,some z=>some (.lookup kd z i j ok)
     | _,_=>none
   | _,_,_=>none
 | .mapUpdate t m k x=>match P.underlying t,aQ m,aQ k,aQ x with
   | some (.map kt _),some i,some j,some y=>(oG P kt).map fun kd=>.kL kd i j y
   | _,_,_,_=>none
 | .makeFunc f first cap=>match fM first.toList,fM cap.toList with
   | some i,some j=>some (.fn f i j)
   | _,_=>none
 | .extract x i=>(aQ x).map fun j=>.extract j i
 | .convert src dst x=>match P.underlying src,P.underlying dst,aQ x with
   | some (.int _),some (.int k),some i=>some (.eV k i)
   | some .string,some .string,some i=>some (.gO i)
   | some .string,some (.slice e),some i=>match P.underlying e with
     | some (.int .u8)=>some (.bytesOf i)
     | _=>none
   | some (.slice e),some .string,some i=>match P.underlying e with
     | some (.int .u8)=>some (.strOf i)
     | _=>none
   | _,_,_=>none
 | .call c=>match c.callee with
   | .value f=>match aQ f,fM c.args.toList with
     | some i,some js=>some (.call i js (if fl=0 then none else some (fl - 1)))
     | _,_=>none
   | .builtin .len=>match c.args.toList,c.argTypes.toList with
     | [x],[t]=>match P.underlying t,aQ x with
       | some .string,some i=>some (.len 0 i)
       | some (.slice _),some i=>some (.len 1 i)
       | some (.map _ _),some i=>some (.len 2 i)
       | _,_=>none
     | _,_=>none
   | .builtin .append=>match c.args.toList,c.argTypes.toList with
     | [s,x],[t,t']=>if t=t' then (match P.underlying t,aQ s,aQ x with
        | some (.slice e),some i,some j=>match cp P e,vP P e with
          | some (esz,z),some bytes=>if 0 < bytes then (if fl=2 then (if vQ z=true then some (.jy esz bytes z i j) else none) else if fl=3 then (if vQ z=true then some (.kr esz bytes z i j) else none) else some (.append esz bytes i j)) else none
          | _,_=>none
        | _,_,_=>none) else none
     | _,_=>none
   | .builtin .max=>match c.args.toList with
     | [x,y]=>match aQ x,aQ y with
       | some i,some j=>some (.mx true i j)
       | _,_=>none
     | _=>none
   | .builtin .min=>match c.args.toList with
     | [x,y]=>match aQ x,aQ y with
       | some i,some j=>some (.mx false i j)
       | _,_=>none
     | _=>none
   | _=>none
 | _=>none
def qD (P:Program) (o:Oper):bZ:=
 match o.op with
 | .call c=>match c.callee with
   | .builtin .copy=>match c.args.toList,c.argTypes.toList with
     | [s,x],[t,_]=>match P.underlying t,aQ s,aQ x with
        | some (.slice e),some i,some j=>match dL P e with
          | some esz=>.copy esz i j
          | none=>.never
        | _,_,_=>.never
     | _,_=>.never
   | .builtin .clear=>match c.args.toList,c.argTypes.toList with
     | [s],[t]=>match P.underlying t,aQ s with
        | some (.slice e),some i=>match cp P e with
          | some (esz,z)=>.nL esz z i
          | none=>.never
        | _,_=>.never
     | _,_=>.never
   | _=>.never
 | _=>.never
def nR (P:Program) (o:Oper):bZ:=
 match o.op with
 | .move x | .assign x=>match aQ x,P.underlying o.type with
   | some i,some (.slice e)=>match dL P e with
     | some esz=>.zX esz i
     | none=>.never
   | _,_=>.never
 | _=>.never
def lr (esz:Nat) (o:Oper):bZ:=
 match o.op with
 | .move x | .assign x=>match aQ x with
   | some i=>.zX esz i
   | none=>.never
 | _=>.never
def Ns (o:Oper):Bool:=match o.op with | .load _ _=>false | _=>true
def Cf (P:Program) (o:Oper) (fl:Nat):bZ:=if fl=3000 then nR P o else if 3000 < fl∧Ns o=true then lr (fl - 3000) o else (cw P o fl).getD (qD P o)
end Go.aJ
end
section
namespace Go.aJ
open Go
section
variable {ro:Option Nat} {P:Program} {lo:Option Nat} {A:Perm} {n:Nat} {M:Mem} {L:List Nat} {w:World} {H:List aa} {env:Env} {O:Pos→Option Nat} {a:Act} {Q:Exit→Act→World→Prop} {K:Env→List aa→Prop}
theorem bN {o:Oper} (hf:Fr A n M L w H env O a) (hd:∀ d,o.dst=some d→d < n)
 (h:∃ r z,(execOp a.eval o).run P w=.ok (.value r) w∧aT M L r z∧K (put o.dst z env) H∧∀ own xs,z=.al own xs→own=0):o.wpIn (wf ro) 0 P a w (nr A n M L w K) Q:=by
 obtain ⟨r,z,h1,h2,h3,h4⟩:=h
 exact wp_pure hf hd h1 h2 h4 h3
theorem a7 {s:Sem Value} {r:Value} {w':World} (h:s.run P w=.ok r w'):(do pure (Next.value (← s)):Sem Next).run P w=.ok (.value r) w':=by
 simp only [Sem.run_bind,h,Result.andThen_ok,Sem.run_pure]
theorem qE {s:Sem Unit} {w':World} (h:s.run P w=.ok () w'):(do s;pure Next.skip:Sem Next).run P w=.ok .skip w':=by
 simp only [Sem.run_bind,h,Result.andThen_ok,Sem.run_pure]
theorem oI {o:Oper} (hf:Fr A n M L w H env O a) (hd:∀ d,o.dst=some d→d < n) {r:Value} {z:AV} {w':World} {M':Mem} {L':List Nat} {H':List aa} (bJ:(execOp a.eval o).run P w=.ok (.value r) w')
 (hr:aT M' L' r z) (hz:∀ own xs,z=.al own xs→own=0) (bP:St A M' L' w' H' (fun t=>a.tmps.getD t undef) (get env) O) (cD:Ext A M w M' w') (hL:L <+: L') (hK:K (put o.dst z env) H'):o.wpIn (wf ro) 0 P a w (nr A n M L w K) Q:=by
 obtain ⟨O',pj⟩:=(hf.mono bP cD).nG hd hr hz
 exact dc bJ ⟨M',L',H',_,O',hK,pj,cD,hL⟩
theorem vR {o:Oper} {aF:Env} {O':Pos→Option Nat} (hf:Fr A n M L w H env O a) (hd:∀ d,o.dst=some d→d < n) {r:Value} {z:AV} {w':World} {M':Mem} {ob:Option Nat} (bJ:(execOp a.eval o).run P w=.ok (.value r) w')
 (hr:aT M' L r z) (MH:bg M' w' r z ob) (bP:St A M' L w' H (fun t=>a.tmps.getD t undef) (get aF) O') (cD:Ext A M w M' w') (h1:∀ q b,ob=some b→O' q≠some b) (h2:∀ b,ob=some b→b∉L∧b < w'.heap.size∧A b) (hK:K (put o.dst z aF) H):o.wpIn (wf ro) 0 P a w (nr A n M L w K) Q:=by
 have pj:Fr A n M' L w' H aF O' a:=⟨bP,hf.size,hf.defers.ext cD⟩
 refine dc bJ ?_
 cases gA:o.dst with
 | none=>rw [gA] at hK;exact ⟨M',L,H,_,O',hK,pj,cD,aah L⟩
 | some d=>
   rw [gA] at hK
   exact ⟨M',L,H,_,_,hK,pj.Ev (hd d gA) hr ob MH (fun q b hb hq=>absurd hq (h1 q b hb)) h2,cD,aah L⟩
theorem yG {o:Oper} {x:Operand} (ho:o.op=.move x∨o.op=.assign x) {i:IX} (hc:aQ x=some i) {take:Bool} (hf:Fr A n M L w H env O a) (hd:∀ d,o.dst=some d→d < n)
 (h:bp ⟨P,lo⟩ (.set i take) o.dst env H K):o.wpIn (wf ro) 0 P a w (nr A n M L w K) Q:=by
 have bJ:(execOp a.eval o).run P w=.ok (.value (a.eval x)) w:=by
  rcases ho with ho | ho <;> simp [execOp,ho]
 have hr:=hf.eval hc
 simp only [bp] at h
 cases gA:o.dst with
 | none=>
   rw [gA] at h
   refine dc bJ ⟨M,L,H,env,O,h,?_,Ext.refl A M w,aah L⟩
   rw [gA];exact hf
 | some d=>
   rw [gA] at h
   have VC:=hd d gA
   have h:K (uB env d i take) H:=h
   unfold uB at h
   split at h
   ·rename_i s _
    -- the list moves
    cases x with
    | tmp t=>
      have hts:t=s:=by simpa [aQ] using hc
      subst hts
      have nP:=hf.st.nG t (v:=a.tmps.getD t undef) (x:=(get env t).ae) (hf.st.env t).ae (AV.bL _)
      have Vp:fF (fun t=>a.tmps.getD t undef) t (a.tmps.getD t undef)=fun t=>a.tmps.getD t undef:=by funext t';simp only [fF];split;rename_i e0;rw [e0];rfl
      rw [Vp] at nP
      have El:Fr A n M L w H ((t,(get env t).ae)::env) (ey O (.t t) none) a:=⟨nP,hf.size,hf.defers⟩
      have tQ:=El.Ev VC (v:=a.tmps.getD t undef) (x:=get env t) (hf.st.env t) (O (.t t)) (hf.st.iq t) (fun p b hb hp=>by
       simp only [ey] at hp
       split at hp
       ·cases hp
       ·rename_i n';exact absurd (hf.st.cc _ _ b hp hb) n') (fun b hb=>⟨hf.st.cu _ b hb,hf.st.fw _ b hb,hf.st.Oa _ b hb⟩)
      rw [← gA] at tQ
      exact dc bJ ⟨M,L,H,_,_,h,tQ,Ext.refl A M w,aah L⟩
    | const v=>simp only [aQ] at hc;obtain ⟨y,_,hy⟩:=yr.1 hc;cases hy
    | func f=>simp [aQ] at hc
    | global g=>simp [aQ] at hc
   ·have tQ:=hf.Ev VC hr.ae none (bg.free (AV.bL _)) (fun p b e=>by cases e) (fun b e=>by cases e)
    rw [← gA] at tQ
    exact dc bJ ⟨M,L,H,_,_,h,tQ,Ext.refl A M w,aah L⟩
theorem vS {o:Oper} {t:TypeId} {x:Operand} (ho:o.op=.load t x) (ht:Jt P t=some none) {i:IX} (hc:aQ x=some i) (hf:Fr A n M L w H env O a) (hd:∀ d,o.dst=some d→d < n)
 (h:bp ⟨P,lo⟩ (.eH i) o.dst env H K):o.wpIn (wf ro) 0 P a w (nr A n M L w K) Q:=by
 have hr:=hf.eval hc
 simp only [bp] at h
 split at h <;> try exact h.elim
 rename_i d id off gA hx
 split at h <;> try exact h.elim
 rename_i es bm
 obtain ⟨pg,hK⟩:=h
 rw [hx] at hr
 generalize hu:a.eval x=u at hr
 cases hr with
 | ptr b _ _ hl=>
 obtain ⟨cs,e,h1,h2,h3⟩:=fB hf.st bm hl
 have hlen:=h2.length
 obtain ⟨r1,r2⟩:=eI (w:=w) (m:=0) ht
 have yy:off < cs.toList.length:=by omega
 have hcell:=h3 off cs.toList[off] (by simp)
 have ff:=h2.getD off
 have e0:cs.toList.getD off undef=cs.toList[off]:=by rw [sc,aap yy];rfl
 rw [e0] at ff
 have bJ:(execOp a.eval o).run P w=.ok (.value cs.toList[off]) w:=by
  simp only [execOp,ho,hu]
  exact a7 (by simp only [Instr.loadAt,Instr.sureAddr,loadVar,Sem.run_bind,Sem.run_pure,Result.andThen_ok,r1,abv,if_false,run_load,hcell])
 have bP:=hf.st.HJ bm hl pg
 have El:Fr A n M L w (H.set id (.cells (es.set off (es.getD off .any).ae))) env (ey O (.c id off) none) a:=⟨bP,hf.size,hf.defers⟩
 have MH:bg M w cs.toList[off] (es.getD off .any) (O (.c id off)):=by
  have h0:=hf.st.ic id off
  have e3:bM L w id off=cs.toList[off]:=by unfold bM;simp only [hl,hcell];rfl
  have e4:bt H id off=es.getD off .any:=by unfold bt;simp [bm]
  rwa [e3,e4] at h0
 have tQ:=El.Ev (hd d gA) ff (O (.c id off)) MH (fun p b hb hp=>by
  simp only [ey] at hp
  split at hp
  ·cases hp
  ·rename_i n';exact absurd (hf.st.cc _ _ b hp hb) n') (fun b hb=>⟨hf.st.cu _ b hb,hf.st.fw _ b hb,hf.st.Oa _ b hb⟩)
 rw [← gA] at tQ
 exact dc bJ ⟨M,L,_,_,_,hK,tQ,Ext.refl A M w,aah L⟩
theorem xQ {o:Oper} {t:TypeId} {x y:Operand} (ho:o.op=.store t x y) (ht:dL P t=some 1) {i:IX} {s:Nat} (hc:aQ x=some i) (hy:aQ y=some (.t s)) (hf:Fr A n M L w H env O a)
 (gA:o.dst=none) (h:bp ⟨P,lo⟩ (.fy i s) o.dst env H K):o.wpIn (wf ro) 0 P a w (nr A n M L w K) Q:=by
 have hr:=hf.eval hc
 simp only [bp] at h
 have qv:y=.tmp s:=by
  cases y with
  | tmp t=>simp [aQ] at hy;rw [hy]
  | const v=>simp only [aQ] at hy;obtain ⟨z,_,hz⟩:=yr.1 hy;cases hz
  | func f=>simp [aQ] at hy
  | global g=>simp [aQ] at hy
 subst qv
 obtain ⟨w',H',O',h1,h2,h3,h4⟩:=z5 (P:=P) hf.st ht h hr s rfl rfl
 have bJ:(execOp a.eval o).run P w=.ok .skip w':=by
  simp only [execOp,ho]
  exact qE h1
 have tQ:Fr A n M L w' H' ((s,(get env s).ae)::env) O' (a.put o.dst undef):=by
  rw [gA];exact ⟨h3,hf.size,hf.defers.ext h4⟩
 exact lZ bJ ⟨M,L,H',_,O',h2,tQ,h4,aah L⟩
theorem Ah {o:Oper} {t e:TypeId} {s x:Operand} (ho:o.op=.call { callee:=.builtin .append,args:=#[s,x],argTypes:=#[t,t] }) (ht:P.underlying t=some (.slice e)) {esz bytes:Nat} {z:AV} (hz:cp P e=some (esz,z)) (hb:vP P e=some bytes) (qt:0 < bytes)
 {i j:IX} (hi:aQ s=some i) (hj:aQ x=some j) (hf:Fr A n M L w H env O a) (hd:∀ d,o.dst=some d→d < n)
 (h:bp ⟨P,lo⟩ (.append esz bytes i j) o.dst env H K):o.wpIn (wf ro) 0 P a w (nr A n M L w K) Q:=by
 simp only [bp] at h
 have vU:=hf.eval hi
 have VD:=hf.eval hj
 unfold cp at hz
 split at hz <;> try cases hz
 rename_i esz' z' MK ma
 split at hz <;> cases hz
 rename_i hcond
 obtain ⟨h0,hZ,pq⟩:=hcond
 obtain ⟨inf,gP,db⟩:=yr.1 MK
 obtain ⟨inf',nS,tN⟩:=yr.1 hb
 rw [gP] at nS;cases nS
 unfold fG at ma
 simp only [gP] at ma
 split at ma <;> try cases ma
 rename_i zv so
 have uO:zv.cells.size=esz:=by have:=((cJ (M:=M) (L:=L) ma).gn pq).length;rw [hZ] at this;simpa using this
 have Nj:match i.slot with | some d=>(fun t=>a.tmps.getD t undef) d=a.eval s∧get env d=au env i | none=>au env i=.ah:=by
  cases s with
  | tmp t=>simp [aQ] at hi;subst hi;exact ⟨rfl,rfl⟩
  | const v=>
    simp only [aQ] at hi
    obtain ⟨y,hy,rfl⟩:=yr.1 hi
    simp only [IX.slot,au]
    have h2:=h
    simp only [au,bw] at h2
    split at h2 <;> try exact h2.elim
    rename_i ew _
    unfold m8 at ew
    split at ew
    ·rfl
    ·-- a constant is never an owned list
     exfalso
     unfold ofValue at hy
     split at hy
     ·obtain ⟨_,_,hq⟩:=yr.1 hy;cases hq
     ·unfold Vm at hy;split at hy <;> cases hy
    ·cases ew
  | func f=>
    simp [aQ] at hi;subst hi
    simp only [au,bw,m8] at h
  | global g=>simp [aQ] at hi
 obtain ⟨r,w',M',O',ob,zs,g1,g2,g3,g4,g5,g6,g7,g8⟩:=B3 (P:=P) (ty:=o.type) hf.st ht gP so db tN uO h0 qt h i.slot vU Nj VD
 have bJ:(execOp a.eval o).run P w=.ok (.value r) w':=by
  simp only [execOp,ho,resolve,invoke,builtin,Sem.run_bind,Sem.run_pure,Result.andThen_ok,ac4,List.map_cons,List.map_nil,g1]
 have Eu:kN (get env) i.slot=get (cP env i.slot):=by
  cases i.slot with
  | none=>rfl
  | some d=>rfl
 rw [Eu] at g5
 exact vR hf hd bJ g3 g4 g5 g6 g7 g8 g2
theorem xR {o:Oper} {t e:TypeId} {s x:Operand} (ho:o.op=.call { callee:=.builtin .append,args:=#[s,x],argTypes:=#[t,t] }) (ht:P.underlying t=some (.slice e)) {esz bytes:Nat} {z:AV} (hz:cp P e=some (esz,z)) (hb:vP P e=some bytes) (qt:0 < bytes) (Ai:vQ z=true)
 {i j:IX} (hi:aQ s=some i) (hj:aQ x=some j) (hf:Fr A n M L w H env O a) (hd:∀ d,o.dst=some d→d < n)
 (h:bp ⟨P,lo⟩ (.jy esz bytes z i j) o.dst env H K):o.wpIn (wf ro) 0 P a w (nr A n M L w K) Q:=by
 simp only [bp] at h
 have vU:=hf.eval hi
 have VD:=hf.eval hj
 unfold cp at hz
 split at hz <;> try cases hz
 rename_i esz' z' MK ma
 split at hz <;> cases hz
 rename_i hcond
 obtain ⟨h0,hZ,pq⟩:=hcond
 obtain ⟨inf,gP,db⟩:=yr.1 MK
 obtain ⟨inf',nS,tN⟩:=yr.1 hb
 rw [gP] at nS;cases nS
 unfold fG at ma
 simp only [gP] at ma
 split at ma <;> try cases ma
 rename_i zv so
 have B5:∀ y∈z.cells,∀ own xs,y=.al own xs→own=0:=by
  intro y hy own xs e
  have:=aaL.1 Ai y hy
  subst e
  simpa using this
 obtain ⟨r,y,L',w',H',O',g1,g2,g3,g4,g5,g6,g7⟩:=Af (P:=P) (ty:=o.type) hf.st ht gP so db tN h0 qt ma pq hZ B5 h vU VD
 have bJ:(execOp a.eval o).run P w=.ok (.value r) w':=by
  simp only [execOp,ho,resolve,invoke,builtin,Sem.run_bind,Sem.run_pure,Result.andThen_ok,ac4,List.map_cons,List.map_nil,g1]
 have El:Fr A n M L' w' H' env O' a:=⟨g5,hf.size,hf.defers.ext g6⟩
 obtain ⟨O'',pj⟩:=El.nG hd g2 g3
 exact dc bJ ⟨M,L',H',_,O'',g4,pj,g6,g7⟩
theorem xS {o:Oper} {t e:TypeId} {s x:Operand} (ho:o.op=.call { callee:=.builtin .append,args:=#[s,x],argTypes:=#[t,t] }) (ht:P.underlying t=some (.slice e)) {esz bytes:Nat} {z:AV} (hz:cp P e=some (esz,z)) (hb:vP P e=some bytes) (qt:0 < bytes) (Ai:vQ z=true)
 {i j:IX} (hi:aQ s=some i) (hj:aQ x=some j) (hf:Fr A n M L w H env O a) (hd:∀ d,o.dst=some d→d < n)
 (hp:∀ l,lo=some l→∀ id,l≤id→A.top id=none) (h:bp ⟨P,lo⟩ (.kr esz bytes z i j) o.dst env H K):o.wpIn (wf ro) 0 P a w (nr A n M L w K) Q:=by
 simp only [bp] at h
 split at h <;> try exact h.elim
 rename_i l
 have vU:=hf.eval hi
 have VD:=hf.eval hj
 unfold cp at hz
 split at hz <;> try cases hz
 rename_i esz' z' MK ma
 split at hz <;> cases hz
 rename_i hcond
 obtain ⟨h0,hZ,pq⟩:=hcond
 obtain ⟨inf,gP,db⟩:=yr.1 MK
 obtain ⟨inf',nS,tN⟩:=yr.1 hb
 rw [gP] at nS;cases nS
 unfold fG at ma
 simp only [gP] at ma
 split at ma <;> try cases ma
 rename_i zv so
 have B5:∀ y∈z.cells,∀ own xs,y=.al own xs→own=0:=by
  intro y hy own xs e
  have:=aaL.1 Ai y hy
  subst e
  simpa using this
 obtain ⟨r,y,L',w',H',O',g1,g2,g3,g4,g5,g6,g7⟩:=Ag (P:=P) (ty:=o.type) (hp l rfl) hf.st ht gP so db tN h0 qt ma pq hZ B5 h vU VD
 have bJ:(execOp a.eval o).run P w=.ok (.value r) w':=by
  simp only [execOp,ho,resolve,invoke,builtin,Sem.run_bind,Sem.run_pure,Result.andThen_ok,ac4,List.map_cons,List.map_nil,g1]
 have El:Fr A n M L' w' H' env O' a:=⟨g5,hf.size,hf.defers.ext g6⟩
 obtain ⟨O'',pj⟩:=El.nG hd g2 g3
 exact dc bJ ⟨M,L',H',_,O'',g4,pj,g6,g7⟩
theorem Gp:∀ {xs ys:List AV},xP xs ys→xs.length=ys.length∧∀ t,(xs.getD t .any).le (ys.getD t .any)
 | [],[],_=>⟨rfl,fun t=>.inl rfl⟩
 | [],_::_,h=>h.elim
 | _::_,[],h=>h.elim
 | x::xs,y::ys,h=>by
   obtain ⟨h1,h2⟩:=h
   obtain ⟨i1,i2⟩:=Gp h2
   refine ⟨by simp [i1],fun t=>?_⟩
   cases t with
   | zero=>simpa using h1
   | succ t=>simpa using i2 t
theorem dH (env:Env) (pass:Option Nat):∀ (j:Nat) (xs:List IX),(aH env pass j xs).length=xs.length
 | _,[]=>rfl
 | j,.t s::xs=>by simp [aH,dH env pass (j + 1) xs]
 | j,.c v::xs=>by simp [aH,dH env pass (j + 1) xs]
theorem jA (hf:Fr A n M L w H env O a) (pass:Option Nat):∀ {xs:List Operand} {is:List IX} (j:Nat),fM xs=some is→aI M L (xs.map a.eval) (aH env pass j is)
 | [],is,j,hc=>by simp [fM] at hc;subst hc;exact .nil
 | x::xs,is,j,hc=>by
   unfold fM at hc
   split at hc
   ·rename_i i is' h1 h2
    cases hc
    have hr:=hf.eval h1
    cases i with
    | t s=>
      refine .cons _ _ _ _ ?_ (jA hf pass (j + 1) h2)
      split
      ·exact hr
      ·exact hr.ae
    | c v=>exact .cons _ _ _ _ hr.ae (jA hf pass (j + 1) h2)
   ·cases hc
def dz (A:Perm) (loose:Bool) (H:List aa) (L:List Nat) (O:Pos→Option Nat) (w:World):Perm where
 wr:=fun b=>b∈L∨(∃ p,O p=some b)∨w.heap.size≤b
 top:=fun id=>if id < H.length then some (A.jd H.length id) else if loose=true then none else some (id + 1)
 ok:=by
  intro id n h
  split at h
  ·rename_i h1
   cases h
   have:=A.kJ h1
   omega
  ·split at h
   ·cases h
   ·cases h;omega
theorem kR (A:Perm) (loose:Bool) (H:List aa) (L:List Nat) (O:Pos→Option Nat) (w:World):(dz A loose H L O w).entry loose H.length:=
 ⟨fun id h=>⟨A.jd H.length id,A.vB _ _,by simp only [dz,if_pos h]⟩,fun id h=>by simp only [dz];rw [if_neg (by omega)]⟩
theorem tR (A:Perm) (loose:Bool) (H:List aa) (L:List Nat) (O:Pos→Option Nat) (w:World) {id:Nat} (h:id < H.length) (len:Nat):(dz A loose H L O w).jd len id=min (A.jd H.length id) len:=by
 unfold Perm.jd
 simp only [dz,if_pos h]
 rfl
theorem St.narrow {ev:Nat→Value} {ea:Nat→AV} (loose:Bool) (h:St A M L w H ev ea O):St (dz A loose H L O w) M L w H ev ea O:=
 { len:=h.len,nodup:=h.nodup,env:=h.env,mem:=h.mem,obj:=h.obj,lt:=h.lt,iq:=h.iq,ic:=h.ic,cc:=h.cc,cu:=h.cu,fw:=h.fw,
   bF:=fun id o ho=>by
    rw [tR A loose H L O w (aM ho),Nat.min_eq_left (A.vB _ _)]
    exact h.bF id o ho
   La:=fun b hb=>.inl hb,Oa:=fun p b hp=>.inr (.inl ⟨p,hp⟩),fresh:=fun b hb=>.inr (.inr hb) }
theorem St.qF {ev:Nat→Value} {ea:Nat→AV} (h:St A M L w H ev ea O) (ev':Nat→Value) (ea':Nat→AV) (hr:∀ t,aT M L (ev' t) (ea' t)) (hx:∀ t own xs,ea' t=.al own xs→own=0) :
 St A M L w H ev' ea' (fun p=>match p with | .t _=>none | .c id j=>O (.c id j)):=by
 have hO:∀ (p:Pos) (b:Nat),(match p with | .t _=>none | .c id j=>O (.c id j))=some b→O p=some b:=by
  intro p b hp
  cases p with
  | t t=>cases hp
  | c id j=>exact hp
 exact { len:=h.len,nodup:=h.nodup,env:=hr,mem:=h.mem,obj:=h.obj,bF:=h.bF,lt:=h.lt,iq:=fun t=>bg.free (hx t),ic:=h.ic,cc:=fun p q b hp hq=>h.cc p q b (hO p b hp) (hO q b hq),
         cu:=fun p b hp=>h.cu p b (hO p b hp),fw:=fun p b hp=>h.fw p b (hO p b hp),La:=h.La,Oa:=fun p b hp=>h.Oa p b (hO p b hp),fresh:=h.fresh }
theorem St.HR {ev:Nat→Value} {ea:Nat→AV} (h:St A M L w H ev ea O) {Oc:Pos→Option Nat} (pt:Option Nat) (loose:Bool) (uD:loose=true→∀ id,H.length≤id→A.top id=none) (Zn:∀ b,(∃ p,Oc p=some b)→(∃ id j,O (.c id j)=some b)∨∃ s,pt=some s∧O (.t s)=some b)
 {M':Mem} {L':List Nat} {w':World} {H':List aa} {v:Value} {r:AV} {O':Pos→Option Nat}
 (h':St (dz A loose H L Oc w) M' L' w' H' (fF (fun _=>undef) 0 v) (fF (fun _=>.any) 0 r) O') (cD:Ext (dz A loose H L Oc w) M w M' w') (hL:L <+: L') :
 ∃ O'',St A M' L' w' H' ev (kN ea pt) O''∧Ext A M w M' w'∧aT M' L' v r∧bg M' w' v r (O' (.t 0))∧(∀ q b,O' (.t 0)=some b→O'' q≠some b)∧(∀ b,O' (.t 0)=some b→b∉L'∧b < w'.heap.size∧A b):=by
 have hlen:H.length≤H'.length:=by
  have:=hL.length_le
  rw [h.len,h'.len] at this
  exact this
 have Zo:∀ b,dz A loose H L Oc w b→A b:=by
  rintro b (hb | hb | hb)
  ·exact h.La b hb
  ·rcases Zn b hb with ⟨id,j,hq⟩ | ⟨s,_,hq⟩
   ·exact h.Oa _ b hq
   ·exact h.Oa _ b hq
  ·exact h.fresh b hb
 let O'':Pos→Option Nat:=fun p=>match p with
  | .t i=>if pt=some i then none else O (.t i)
  | .c id j=>O' (.c id j)
 -- what the caller keeps is not the callee's to write
 have kK:∀ i b,pt≠some i→O (.t i)=some b→¬ dz A loose H L Oc w b:=by
  rintro i b hi hb (hc | hc | hc)
  ·exact h.cu _ b hb hc
  ·rcases Zn b hc with ⟨id,j,hq⟩ | ⟨s,hs,hq⟩
   ·have:=h.cc _ _ b hb hq;cases this
   ·have:=h.cc _ _ b hb hq;cases this;exact hi hs
  ·have:=h.fw _ b hb;omega
 have HS:∀ i b,O'' (.t i)=some b→pt≠some i∧O (.t i)=some b:=by
  intro i b hb
  simp only [O''] at hb
  split at hb
  ·cases hb
  ·rename_i hi;exact ⟨hi,hb⟩
 have RJ:∀ i b p,O'' (.t i)=some b→O' p≠some b:=by
  intro i b p hb hp
  obtain ⟨h1,h2⟩:=HS i b hb
  exact kK i b h1 h2 (h'.Oa p b hp)
 refine ⟨O'',{ len:=h'.len,nodup:=h'.nodup,env:=?_,mem:=h'.mem,obj:=h'.obj,bF:=?_,lt:=h'.lt,iq:=?_,ic:=h'.ic,cc:=?_,cu:=?_,fw:=?_,La:=fun b hb=>Zo b (h'.La b hb),Oa:=?_,fresh:=fun b hb=>h.fresh b (abY cD.size hb) },?_,?_,?_,?_,?_⟩
 ·intro t
  have:=(h.env t).mono cD.lg hL
  cases pt with
  | none=>exact this
  | some d=>
    simp only [kN,fF]
    split
    ·rename_i e0;subst e0;exact this.ae
    ·exact this
 ·intro id o ho
  have h1:=h'.bF id o ho
  have hl:=aM ho
  by_cases e:id < H.length
  ·rw [tR A loose H L Oc w e] at h1
   exact aa.cR (abY (adN _ _) (A.BR hlen id)) o h1
  ·by_cases hx:loose=true
   ·have e1:A.jd H'.length id=H'.length:=by unfold Perm.jd;rw [uD hx id (by omega)]
    rw [e1]
    exact aa.cR (Perm.vB _ _ _) o h1
   ·have e1:(dz A loose H L Oc w).jd H'.length id=min (id + 1) H'.length:=by
     unfold Perm.jd
     simp only [dz,if_neg e,if_neg hx]
    rw [e1] at h1
    exact aa.cR (abY (adN _ _) (A.kJ hl)) o h1
 ·intro t
  have h1:=h.iq t
  cases pt with
  | none=>
    exact h1.mono fun b hb=>cD.kK b (h.fw _ b hb) (kK t b (by simp) hb)
  | some d=>
    simp only [kN,fF,O'']
    by_cases e0:t=d
    ·subst e0
     simp only [if_true]
     exact bg.free (AV.bL _)
    ·have:¬ (some d=some t):=fun e=>e0 (by cases e;rfl)
     simp only [e0,this,if_false]
     exact h1.mono fun b hb=>cD.kK b (h.fw _ b hb) (kK t b this hb)
 ·intro p q b hp hq
  cases p with
  | t i=>
    cases q with
    | t j=>exact h.cc _ _ b (HS i b hp).2 (HS j b hq).2
    | c id j=>exact absurd hq (RJ i b _ hp)
  | c id j=>
    cases q with
    | t i=>exact absurd hp (RJ i b _ hq)
    | c id' j'=>exact h'.cc _ _ b hp hq
 ·intro p b hp hm
  cases p with
  | t i=>exact kK i b (HS i b hp).1 (HS i b hp).2 (h'.La b hm)
  | c id j=>exact h'.cu _ b hp hm
 ·intro p b hp
  cases p with
  | t i=>exact adi (h.fw _ b (HS i b hp).2) cD.size
  | c id j=>exact h'.fw _ b hp
 ·intro p b hp
  cases p with
  | t i=>exact h.Oa _ b (HS i b hp).2
  | c id j=>exact Zo b (h'.Oa _ b hp)
 ·exact ⟨cD.lg,cD.size,cD.os,cD.tape,cD.output,fun b hb hA=>cD.kK b hb (fun hc=>hA (Zo b hc)),cD.loops⟩
 ·simpa [fF] using h'.env 0
 ·simpa [fF] using h'.iq 0
 ·intro q b hb hq
  cases q with
  | t i=>exact RJ i b _ hq hb
  | c id j=>have:=h'.cc _ _ b hb hq;cases this
 ·intro b hb
  exact ⟨h'.cu _ b hb,h'.fw _ b hb,Zo b (h'.Oa _ b hb)⟩
theorem fR (env:Env):∀ (xs:List IX) (j t:Nat),(aH env none j xs).getD t .any=(match xs[t]? with | some x=>(au env x).ae | none=>.any)
 | [],j,t=>by simp [aH]
 | .t s::xs,j,0=>by simp [aH,au]
 | .c v::xs,j,0=>by simp [aH,au]
 | .t s::xs,j,t + 1=>by
   simp only [aH,List.getD_cons_succ,List.getElem?_cons_succ]
   exact fR env xs (j + 1) t
 | .c v::xs,j,t + 1=>by
   simp only [aH,List.getD_cons_succ,List.getElem?_cons_succ]
   exact fR env xs (j + 1) t
theorem fS (env:Env) (k:Nat):∀ (xs:List IX) (j t:Nat),(aH env (some k) j xs).getD t .any=(match xs[t]? with | some (.t s)=>if k=j + t then get env s else (get env s).ae | some (.c v)=>v.ae | none=>.any)
 | [],j,t=>by simp [aH]
 | .t s::xs,j,0=>by simp [aH]
 | .c v::xs,j,0=>by simp [aH]
 | .t s::xs,j,t + 1=>by
   simp only [aH,List.getD_cons_succ,List.getElem?_cons_succ]
   rw [fS env k xs (j + 1) t,show j + 1 + t=j + (t + 1) by omega]
 | .c v::xs,j,t + 1=>by
   simp only [aH,List.getD_cons_succ,List.getElem?_cons_succ]
   rw [fS env k xs (j + 1) t,show j + 1 + t=j + (t + 1) by omega]
theorem qG (vs:List Value) (t:Nat):vs.toArray.getD t undef=vs.getD t undef:=by
 simp [sc]
theorem lz (xs ys zs:List AV) (t:Nat):(xs++ys++zs).getD t .any=if t < xs.length then xs.getD t .any else if t < xs.length + ys.length then ys.getD (t - xs.length) .any else zs.getD (t - xs.length - ys.length) .any:=by
 simp only [sc,adG,aab]
 by_cases h1:t < xs.length
 ·rw [if_pos (by omega),if_pos h1,if_pos h1]
 ·by_cases h2:t < xs.length + ys.length
  ·rw [if_pos h2,if_neg h1,if_neg h1,if_pos h2]
  ·rw [if_neg h2,if_neg h1,if_neg h2,Nat.sub_sub]
theorem sx {o:Oper} {xs:List Operand} {js:List IX} (UY:fM xs=some js) {pass:Option Nat} {fs cs:List Value} {first cap:List AV} (Aj:aI M L fs first) (sv:aI M L cs cap) {bR:List AV}
 (hle:xP (first.map AV.ae++aH env pass 0 js++cap.map AV.ae) bR) (hf:Fr A n M L w H env O a) (hd:∀ d,o.dst=some d→d < n) {loose:Bool} (uD:loose=true→∀ id,H.length≤id→A.top id=none) :
 ∃ Oc,(fs++xs.map a.eval++cs).length=bR.length∧St (dz A loose H L Oc w) M L w H (fun t=>(fs++xs.map a.eval++cs).toArray.getD t undef) (fun t=>bR.getD t .any) Oc∧
  ∀ (v:Value) (r:AV) (H':List aa) (M':Mem) (L':List Nat) (O':Pos→Option Nat) (w':World),K (put o.dst r (cP env (bh js pass))) H'→St (dz A loose H L Oc w) M' L' w' H' (fF (fun _=>undef) 0 v) (fF (fun _=>.any) 0 r) O'→Ext (dz A loose H L Oc w) M w M' w'→L <+: L'→
   nr A n M L w K (a.put o.dst v) w':=by
 have hrb:=jA hf pass 0 UY
 have Z5:=jA hf none 0 UY
 obtain ⟨hlen,Z6⟩:=Gp hle
 obtain ⟨vs,xK⟩:∃ vs:List Value,vs=fs++xs.map a.eval++cs:=⟨_,rfl⟩
 have hrv:aI M L vs (first.map AV.ae++aH env pass 0 js++cap.map AV.ae):=by rw [xK];exact (Aj.df.append hrb).append sv.df
 have Z7:aI M L vs (first.map AV.ae++aH env none 0 js++cap.map AV.ae):=by rw [xK];exact (Aj.df.append Z5).append sv.df
 have qq:vs.length=bR.length:=by rw [hrv.length];exact hlen
 -- the callee's state
 have Z8:∃ Oc,St A M L w H (fun t=>vs.toArray.getD t undef) (fun t=>bR.getD t .any) Oc∧(∀ b,(∃ p,Oc p=some b)→(∃ id j,O (.c id j)=some b)∨∃ s,bh js pass=some s∧O (.t s)=some b):=by
  have hfree:∀ t own zs,(first.map AV.ae++aH env none 0 js++cap.map AV.ae).getD t .any=.al own zs→own=0:=by
   intro t own zs he
   have hm:∀ (l:List AV) q,(l.map AV.ae).getD q .any=.al own zs→own=0:=by
    intro l q hq
    rw [sc,acj] at hq
    cases hx:l[q]? with
    | none=>simp [hx] at hq
    | some y=>simp [hx] at hq;exact AV.bL y own zs hq
   rw [lz] at he
   split at he
   ·exact hm _ _ he
   ·split at he
    ·rw [fR] at he
     split at he
     ·exact AV.bL _ own zs he
     ·cases he
    ·exact hm _ _ he
  have h0:=hf.st.qF (fun t=>vs.toArray.getD t undef) (fun t=>(first.map AV.ae++aH env none 0 js++cap.map AV.ae).getD t .any) (fun t=>by rw [qG];exact Z7.getD t) hfree
  -- then the one that is handed over
  have h1:∃ O1,St A M L w H (fun t=>vs.toArray.getD t undef) (fun t=>(first.map AV.ae++aH env pass 0 js++cap.map AV.ae).getD t .any) O1∧(∀ b,(∃ p,O1 p=some b)→(∃ id j,O (.c id j)=some b)∨∃ s,bh js pass=some s∧O (.t s)=some b):=by
   cases px:bh js pass with
   | none=>
     refine ⟨_,h0.congr (fun _=>rfl) (fun t=>?_),?_⟩
     ·rw [lz,lz,dH,dH]
      split
      ·rfl
      ·split
       ·cases pass with
        | none=>rfl
        | some k=>
          rw [fR,fS]
          unfold bh at px
          simp only at px
          cases hx:js[t - (first.map AV.ae).length]? with
          | none=>rfl
          | some x=>
            cases x with
            | c v=>rfl
            | t s=>
              simp only
              rw [if_neg]
              ·rfl
              ·intro e
               rw [abw] at e
               rw [e,hx] at px
               simp at px
       ·rfl
     ·rintro b ⟨p,hp⟩
      cases p with
      | t t=>cases hp
      | c id j=>exact .inl ⟨id,j,hp⟩
   | some s=>
     -- where it stands
     obtain ⟨k,rfl,Qo⟩:∃ k,pass=some k∧js[k]?=some (.t s):=by
      unfold bh at px
      split at px
      ·rename_i k
       split at px
       ·rename_i s' VE;cases px;exact ⟨k,rfl,VE⟩
       ·cases px
      ·cases px
     have Cg:k < js.length:=aM Qo
     have hargs:∀ (xs:List Operand) (is:List IX),fM xs=some is→∀ (q s:Nat),is[q]?=some (IX.t s)→xs[q]?=some (Operand.tmp s):=by
      intro xs
      induction xs with
      | nil=>intro is hc q s hq;simp [fM] at hc;subst hc;simp at hq
      | cons x xs ih=>
        intro is hc q s hq
        unfold fM at hc
        split at hc
        ·rename_i i is' e1 e2
         cases hc
         cases q with
         | zero=>
           simp at hq;subst hq
           cases x with
           | tmp t=>simp [aQ] at e1;simp [e1]
           | const v=>simp only [aQ] at e1;obtain ⟨_,_,hz⟩:=yr.1 e1;cases hz
           | func f=>simp [aQ] at e1
           | global g=>simp [aQ] at e1
         | succ q=>simpa using ih is' e2 q s (by simpa using hq)
        ·cases hc
     have cU:=hargs _ _ UY k s Qo
     have ns:vs[first.length + k]?=some (a.tmps.getD s undef):=by
      have Np:fs.length=first.length:=Aj.length
      rw [xK]
      rw [aa2,aaN (by omega),Np,show first.length + k - first.length=k by omega,yp (by simpa using aM cU),acj,cU]
      rfl
     have nP:=h0.put (first.length + k) (v:=a.tmps.getD s undef) (x:=get env s) (hf.st.env s) (O (.t s)) (hf.st.iq s) (fun p b hb hp=>by
      cases p with
      | t t=>cases hp
      | c id j=>have:=hf.st.cc _ _ b hb hp;cases this) (fun b hb=>⟨hf.st.cu _ b hb,hf.st.fw _ b hb,hf.st.Oa _ b hb⟩)
     refine ⟨_,nP.congr (fun t=>?_) (fun t=>?_),?_⟩
     ·simp only [fF]
      split
      ·rename_i e;subst e
       rw [qG,sc,ns];rfl
      ·rfl
     ·simp only [fF]
      rw [lz,lz,dH,dH]
      simp only [acW]
      by_cases e:t=first.length + k
      ·subst e
       rw [if_pos rfl,if_neg (by omega),if_pos (by omega),show first.length + k - first.length=k by omega,fS,Qo]
       simp
      ·rw [if_neg e]
       split
       ·rfl
       ·split
        ·rw [fR,fS]
         cases hx:js[t - first.length]? with
         | none=>rfl
         | some x=>
           cases x with
           | c v=>rfl
           | t s=>
             simp only
             rw [if_neg (by omega)]
             rfl
        ·rfl
     ·rintro b ⟨p,hp⟩
      simp only [ey] at hp
      split at hp
      ·exact .inr ⟨s,rfl,hp⟩
      ·cases p with
       | t t=>cases hp
       | c id j=>exact .inl ⟨id,j,hp⟩
  obtain ⟨O1,g1,g2⟩:=h1
  obtain ⟨O2,g3,g4⟩:=g1.Gj (ea':=fun t=>bR.getD t .any) Z6
  exact ⟨O2,g3,fun b ⟨p,hp⟩=>g2 b ⟨p,g4 p b hp⟩⟩
 obtain ⟨Oc,bP,Zn⟩:=Z8
 refine ⟨Oc,by rw [← xK];exact qq,by rw [← xK];exact bP.narrow loose,?_⟩
 intro v r H' M' L' O' w' hK mb cD hL
 obtain ⟨O'',k1,k2,k3,k4,k5,k6⟩:=hf.st.HR (bh js pass) loose uD Zn mb cD hL
 have Eu:kN (get env) (bh js pass)=get (cP env (bh js pass)):=by
  cases bh js pass <;> rfl
 rw [Eu] at k1
 have pj:Fr A n M' L' w' H' (cP env (bh js pass)) O'' a:=⟨k1,hf.size,hf.defers.ext k2⟩
 show nr A n M L w K (a.put o.dst v) w'
 cases gA:o.dst with
 | none=>rw [gA] at hK;exact ⟨M',L',H',_,O'',hK,pj,k2,hL⟩
 | some d=>
   rw [gA] at hK
   exact ⟨M',L',H',_,_,hK,pj.Ev (hd d gA) k3 (O' (.t 0)) k4 (fun q b hb hq=>absurd hq (k5 q b hb)) k6,k2,hL⟩
theorem EL {o:Oper} {c:Call} (ho:o.op=.call c) {f:Operand} (nt:c.callee=.value f) {i:IX} {js:List IX} (Gq:aQ f=some i) (UY:fM c.args.toList=some js) {pass:Option Nat}
 (hp:∀ l,lo=some l→∀ id,l≤id→A.top id=none) (hf:Fr A n M L w H env O a) (hd:∀ d,o.dst=some d→d < n) (h:bp ⟨P,lo⟩ (.call i js pass) o.dst env H K):o.wpIn (wf ro) 0 P a w (nr A n M L w K) Q:=by
 simp only [bp] at h
 have ML:=hf.eval Gq
 unfold pw at h
 split at h <;> try exact h.elim
 ·rename_i g first cap VF
  obtain ⟨bR,hle,hcall⟩:=h
  rw [VF] at ML
  generalize hu:a.eval f=u at ML
  cases ML with
  | fn _ fs cs _ _ Aj sv=>
  obtain ⟨loose,uD,hcall⟩:∃ loose:Bool,(loose=true→∀ id,H.length≤id→A.top id=none)∧kQ loose P g bR H fun r H'=>K (put o.dst r (cP env (bh js pass))) H':=by
   unfold dW at hcall
   split at hcall
   ·exact ⟨false,by simp,hcall⟩
   ·rename_i l hl
    rcases hcall with hcall | ⟨h1,hcall⟩
    ·exact ⟨false,by simp,hcall⟩
    ·exact ⟨true,fun _ id bm=>hp l hl id (by omega),hcall⟩
  obtain ⟨Oc,qq,bP,fin⟩:=sx (K:=K) (o:=o) UY Aj sv hle hf hd uD
  obtain ⟨vs,xK⟩:∃ vs:List Value,vs=fs++c.args.toList.map a.eval++cs:=⟨_,rfl⟩
  rw [← xK] at qq bP
  have bJ:(execOp a.eval o).run P w=(callFunc g vs.toArray).run P w:=by
   simp only [execOp,ho,resolve,nt,Deferred.ofValue,hu,invoke,Sem.run_bind,Sem.run_pure,Result.andThen_ok]
   have e1:(fs.toArray++c.args.map a.eval++cs.toArray)=vs.toArray:=by
    apply Array.ext';simp [xK]
   rw [e1]
  rcases hcall (dz A loose H L Oc w) M L w vs.toArray Oc (kR A loose H L Oc w) (by simpa using qq) bP with ⟨h1,hc⟩ | ⟨v,w',r,H',M',L',O',h1,hK,mb,cD,hL⟩
  ·refine lh (bJ.trans h1) (by intro d e;cases e) ⟨(fun h=>by cases h),?_⟩
   have ma:CallsIn (wf ro) (0 - 1) P g vs.toArray w _:=callsIn_wide.2 hc
   refine CallsIn.mono ma fun e w' he=>?_
   obtain ⟨v,r,H',M',L',O',rfl,hK,mb,cD,hL⟩:=he
   exact fin v r H' M' L' O' w' hK mb cD hL
  ·exact dc (bJ.trans h1) (fin v r H' M' L' O' w' hK mb cD hL)
 ·rename_i id VF
  obtain ⟨bR,hle,hcall⟩:=h
  rw [VF] at ML
  generalize hu:a.eval f=u at ML
  cases ML with
  | nF b _ hl=>
  obtain ⟨loose,uD,hcall⟩:∃ loose:Bool,(loose=true→∀ id,H.length≤id→A.top id=none)∧fE loose P id bR H fun r H'=>K (put o.dst r (cP env (bh js pass))) H':=by
   unfold me at hcall
   split at hcall
   ·exact ⟨false,by simp,hcall⟩
   ·rename_i l hl
    rcases hcall with hcall | ⟨h1,hcall⟩
    ·exact ⟨false,by simp,hcall⟩
    ·exact ⟨true,fun _ id bm=>hp l hl id (by omega),hcall⟩
  obtain ⟨Oc,qq,bP,fin⟩:=sx (K:=K) (o:=o) (fs:=[]) (cs:=[]) (first:=[]) (cap:=[]) UY .nil .nil (by simpa using hle) hf hd uD
  simp only [List.nil_append,abX] at qq bP
  obtain ⟨fn,tmps,as,bd,h1,h2⟩:=hcall (dz A loose H L Oc w) M L w (c.args.toList.map a.eval).toArray Oc b (kR A loose H L Oc w) (by simpa using qq) hl bP
  have bJ:(execOp a.eval o).run P w=.ok (.round b fn tmps as bd) w:=by
   simp only [execOp,ho,resolve,nt,Deferred.ofValue,hu,invoke,Sem.run_bind,Sem.run_pure,Result.andThen_ok]
   have e1:(#[]++c.args.map a.eval:Array Value)=(c.args.toList.map a.eval).toArray:=by
    apply Array.ext';simp
   rw [e1]
   exact h1
  refine lh bJ (by intro d e;cases e) ⟨(fun h=>by cases h),?_⟩
  have ma:RoundIn (wf ro) (0 - 1) P b fn tmps as bd w _:=h2
  refine RoundIn.mono ma fun e w' he=>?_
  obtain ⟨v,r,H',M',L',O',rfl,hK,mb,cD,hL⟩:=he
  exact fin v r H' M' L' O' w' hK mb cD hL
end
end Go.aJ
end
section
namespace Go.aJ
open Go
section
variable {ro:Option Nat} {P:Program} {lo:Option Nat} {A:Perm} {n:Nat} {M:Mem} {L:List Nat} {w:World} {H:List aa} {env:Env} {O:Pos→Option Nat} {a:Act} {Q:Exit→Act→World→Prop} {K:Env→List aa→Prop}
theorem oJ {x:AV} {φ:Bool→Prop} (h:fc x φ):∃ b,x=.bool b∧φ b:=by
 unfold fc at h
 split at h
 ·exact ⟨_,rfl,h⟩
 ·exact h.elim
def iu (kd:Nat):Value:=match kd with | 0=>.slice none 0 0 | 1=>.pointer none | 2=>.map none | _=>.nilFunc
def qH (kd:Nat) (D:TypeDesc):Bool:=match kd,D with | 0,.slice _=>true | 1,.pointer _=>true | 2,.map _ _=>true | 3,.func _ _ _=>true | _,_=>false
theorem uI {d kd:Nat} {t:TypeId} {D:TypeDesc} (ht:P.underlying t=some D) (hD:qH kd D=true) {u:Value} {x:AV} {b:Bool} (hx:isNil kd x=some b) (hu:aT M L u x):(Op.equalIn (d + 1) t u (iu kd)).run P w=.ok b w:=by
 unfold isNil at hx
 split at hx <;> cases hx <;> cases D <;> simp [qH] at hD <;> cases hu <;> simp [Op.equalIn,run_underlying ht,iu]
theorem vV {kd:Nat} {neq:Bool} {t:TypeId} {D:TypeDesc} (ht:P.underlying t=some D) (hD:qH kd D=true) {u:Value} {x:AV} {φ:AV→Prop} (h:dl kd neq x φ) (hu:aT M L u x) (X Y:Operand) :
 ∃ r z,(do eqGuard (if neq then .neq else .eql) t X Y u (iu kd);binOp (if neq then .neq else .eql) t u (iu kd):Sem Value).run P w=.ok r w∧aT M L r z∧φ z∧∀ own xs,z=.al own xs→own=0:=by
 unfold dl at h
 split at h
 rotate_left
 ·split at h <;> try exact h.elim
  cases hu with
  | al b off c own e cs xs he hx hn hle hc hr hm=>simp at hn
  | gM ad c own hc=>
    have hDs:∃ e,D=.slice e:=by
     cases D <;> simp [qH] at hD
     exact ⟨_,rfl⟩
    obtain ⟨e,rfl⟩:=hDs
    have Z9:∀ d,(Op.equalIn (d + 1) t (.slice ad 0 c) (iu 0)).run P w=.ok (ad.isNone) w:=by
     intro d
     cases ad <;> simp [Op.equalIn,run_underlying ht,iu]
    have he:(Op.equal t (.slice ad 0 c) (iu 0)).run P w=.ok (ad.isNone) w:=Z9 9999
    have hg:∀ op,(eqGuard op t X Y (.slice ad 0 c) (iu 0)).run P w=.ok () w:=by
     intro op
     unfold eqGuard;cases op <;> rfl
    have h1:binOp .eql t (.slice ad 0 c) (iu 0)=(Op.equal t (.slice ad 0 c) (iu 0) >>= fun q=>(pure (.bool q):Sem Value)):=rfl
    have h2:binOp .neq t (.slice ad 0 c) (iu 0)=(Op.equal t (.slice ad 0 c) (iu 0) >>= fun q=>(pure (.bool (!q)):Sem Value)):=rfl
    have hφ:∀ b,φ (.bool b):=fun b=>by cases b;exact h.2;exact h.1
    cases neq
    ·refine ⟨.bool ad.isNone,.bool ad.isNone,?_,.bool _,hφ _,by intro _ _ e;cases e⟩
     simp only [abv,if_false,Sem.run_bind,hg,Result.andThen_ok,h1,he,Sem.run_pure]
    ·refine ⟨.bool (!ad.isNone),.bool (!ad.isNone),?_,.bool _,hφ _,by intro _ _ e;cases e⟩
     simp only [if_true,Sem.run_bind,hg,Result.andThen_ok,h2,he,Sem.run_pure]
 rename_i b hb
 have he:(Op.equal t u (iu kd)).run P w=.ok b w:=uI (d:=9999) ht hD hb hu
 have hg:∀ op,(eqGuard op t X Y u (iu kd)).run P w=.ok () w:=by
  intro op
  unfold isNil at hb
  split at hb <;> cases hb <;> cases hu <;> (unfold eqGuard;cases op <;> rfl)
 have h1:binOp .eql t u (iu kd)=(Op.equal t u (iu kd) >>= fun q=>(pure (.bool q):Sem Value)):=by
  unfold isNil at hb
  split at hb <;> cases hb <;> cases hu <;> rfl
 have h2:binOp .neq t u (iu kd)=(Op.equal t u (iu kd) >>= fun q=>(pure (.bool (!q)):Sem Value)):=by
  unfold isNil at hb
  split at hb <;> cases hb <;> cases hu <;> rfl
 cases neq
 ·refine ⟨.bool b,.bool b,?_,.bool _,h,by intro _ _ e;cases e⟩
  simp only [abv,if_false,Sem.run_bind,hg,Result.andThen_ok,h1,he,Sem.run_pure]
 ·refine ⟨.bool (!b),.bool (!b),?_,.bool _,h,by intro _ _ e;cases e⟩
  simp only [if_true,Sem.run_bind,hg,Result.andThen_ok,h2,he,Sem.run_pure]
theorem vW (hf:Fr A n M L w H env O a) {xs:List Operand} {is:List IX} (hc:fM xs=some is):aI M L (xs.map a.eval) (is.map fun x=>(au env x).ae):=by
 have:=(hf.Qm hc).df
 rwa [adp] at this
theorem cq (hf:Fr A n M L w H env O a) {x:Option Operand} {i:Option IX} (hc:kw x=some i):jj M L (gS env i) (x.map a.eval):=by
 cases x with
 | none=>simp [kw] at hc;subst hc;trivial
 | some x=>
   simp only [kw] at hc
   obtain ⟨j,hj,rfl⟩:=yr.1 hc
   exact hf.eval hj
theorem Gs {e:TypeId} {esz:Nat} {z:AV} (h:cp P e=some (esz,z)):dL P e=some esz∧fG P e=some z∧0 < esz∧z.cells.length=esz∧z.val=true:=by
 unfold cp at h
 split at h <;> try cases h
 rename_i h1 h2
 split at h <;> cases h
 rename_i hc
 exact ⟨h1,h2,hc⟩
theorem HT {x:AV} (h:aN 0 x):jh .string x=true:=by
 cases x <;> first | rfl | exact (show False from h).elim
theorem Ch {x:AV} (h:aN 1 x) (e:TypeId):jh (.slice e) x=true:=by
 cases x <;> first | rfl | exact (show False from h).elim
theorem HU {x:AV} (h:aN 2 x) (k e:TypeId):jh (.map k e) x=true:=by
 cases x <;> first | rfl | exact (show False from h).elim
theorem J0 (o:Oper) {fl:Nat} {i:bZ} (hc:cw P o fl=some i) (hp:∀ l,lo=some l→∀ id,l≤id→A.top id=none) (hf:Fr A n M L w H env O a) (hd:∀ d,o.dst=some d→d < n) (hnone:(match o.op with | .store .. | .mapUpdate ..=>o.dst=none | _=>True))
 (h:bp ⟨P,lo⟩ i o.dst env H K):o.wpIn (wf ro) 0 P a w (nr A n M L w K) Q:=by
 cases cU:o.op with
 | move x=>
   simp only [cw,cU] at hc
   obtain ⟨j,hj,rfl⟩:=yr.1 hc
   exact yG (.inl cU) hj hf hd h
 | assign x=>
   simp only [cw,cU] at hc
   obtain ⟨j,hj,rfl⟩:=yr.1 hc
   exact yG (.inr cU) hj hf hd h
 | pick c x y=>
   simp only [cw,cU] at hc
   split at hc <;> cases hc
   rename_i c' x' y' h1 h2 h3
   simp only [bp] at h
   obtain ⟨b,hb,h⟩:=oJ h
   have hr:=hf.eval h1
   rw [hb] at hr
   generalize hu:a.eval c=u at hr
   cases hr
   cases b
   ·exact wp_pure hf hd (by simp [execOp,cU,hu,asBool]) (hf.eval h3).ae (AV.bL _) (h.2 rfl)
   ·exact wp_pure hf hd (by simp [execOp,cU,hu,asBool]) (hf.eval h2).ae (AV.bL _) (h.1 rfl)
 | alloc e=>
   simp only [cw,cU] at hc
   split at hc <;> try cases hc
   rename_i z hz
   split at hc <;> cases hc
   rename_i hv
   simp only [bp] at h
   obtain ⟨r,L',w',h1,h2,h3,h4,h5⟩:=Ez (P:=P) hf.st hz hv h.1
   exact oI hf hd (by simp only [execOp,cU];exact a7 h1) h2 (by intro _ _ e;cases e) h3 h4 h5 h.2
 | box e x=>
   simp only [cw,cU] at hc
   obtain ⟨j,hj,hc⟩:=yr.1 hc
   split at hc <;> subst hc <;> simp only [bp] at h
   ·obtain ⟨r,M',w',h1,h2,h3,h4⟩:=HH (P:=P) hf.st e (hf.eval hj) h.1
    exact oI hf hd (by simp only [execOp,cU];exact a7 h1) h2 (by intro _ _ e;cases e) h3 h4 (aah L) h.2
   ·obtain ⟨r,L',w',h1,h2,h3,h4,h5⟩:=BX (P:=P) hf.st e (hf.eval hj) h.1 h.2.1
    exact oI hf hd (by simp only [execOp,cU];exact a7 h1) h2 (by intro _ _ e;cases e) h3 h4 h5 h.2.2
 | build t ps=>
   simp only [cw,cU] at hc
   split at hc <;> try cases hc
   rename_i z places ht
   split at hc <;> try cases hc
   rename_i qs hq
   split at hc <;> cases hc
   rename_i hv
   simp only [bp] at h
   obtain ⟨r,x,h1,h2,h3,h4⟩:=EB (P:=P) hf ht hq h hv
   exact wp_pure hf hd (by simp only [execOp,cU];exact a7 h1) h2 h4 h3
 | buildSlice t len ps=>
   simp only [cw,cU] at hc
   split at hc <;> try cases hc
   rename_i e ht
   split at hc <;> try cases hc
   rename_i esz z qs hz hq
   split at hc <;> cases hc
   rename_i hlen
   obtain ⟨p1,p2,p3,p4,p5⟩:=Gs hz
   obtain ⟨q1,q2⟩:=mY hf _ _ hq
   by_cases VG:fl=2
   ·rw [if_pos VG] at h
    simp only [bp] at h
    obtain ⟨r,x,L',w',H',h1,h2,h3,h4,h5,h6,h7⟩:=HQ (P:=P) hf.st ht p1 p3 p2 p4 p5 hlen (vs:=ps.map fun (i,x)=>(i,a.eval x)) (by
     intro j p hp
     obtain ⟨v,v1,v2⟩:=q1 j p hp
     exact ⟨v,by simpa using v1,v2⟩) (by simp [q2]) h
    exact oI hf hd (by simp only [execOp,cU];exact a7 h1) h2 h3 h5 h6 h7 h4
   rw [if_neg VG] at h
   simp only [bp] at h
   obtain ⟨m,xs,M',w',ad,h1,h2,h3,h4,h5,h6⟩:=uC (P:=P) hf.st ht p1 p3 p2 p4 p5 (if fl=1 then esz else 0) hlen (vs:=ps.map fun (i,x)=>(i,a.eval x)) (by
    intro j p hp
    obtain ⟨v,v1,v2⟩:=q1 j p hp
    exact ⟨v,by simpa using v1,v2⟩) (by simp [q2]) h
   obtain ⟨O',pj⟩:=(hf.mono h5 h6).Gl (dst:=o.dst) hd h2 (fun eU y hy=>by
    split at eU
    ·rename_i Np;rw [if_pos Np];exact h3 y hy
    ·exact absurd rfl eU)
   exact dc (by simp only [execOp,cU];exact a7 h1) ⟨M',L,H,_,O',h4,pj,h6,aah L⟩
 | load t x=>
   simp only [cw,cU] at hc
   split at hc <;> try cases hc
   rename_i sz j ht hj
   split at hc
   ·split at hc <;> cases hc
    rename_i hs
    subst hs
    exact vS cU ht hj hf hd h
   split at hc
   ·cases hc
    simp only [bp] at h
    obtain ⟨r,z,h1,h2,h3,h4⟩:=sl (P:=P) ht hf.st h (hf.eval hj)
    obtain ⟨y,M',H',O',g1,g2,g3,g4,g5⟩:=sw hf.st h3 h2
    obtain ⟨O'',pj⟩:=(hf.mono g3 g4).nG (dst:=o.dst) hd g1 g5
    exact dc (by simp only [execOp,cU];exact a7 h1) ⟨M',L,H',_,O'',g2,pj,g4,aah L⟩
   ·cases hc
    simp only [bp] at h
    obtain ⟨r,z,h1,h2,h3,h4⟩:=sl (P:=P) ht hf.st h (hf.eval hj)
    exact bN hf hd ⟨r,z,by simp only [execOp,cU];exact a7 h1,h2,h3,h4⟩
 | store t x y=>
   simp only [cU] at hnone
   simp only [cw,cU] at hc
   split at hc <;> try cases hc
   rename_i m j k ht hj hk
   split at hc
   ·split at hc <;> try cases hc
    rename_i s
    split at hc <;> cases hc
    rename_i hm
    subst hm
    exact xQ cU ht hj hk hf hnone h
   split at hc
   ·cases hc
    simp only [bp] at h
    obtain ⟨l,rfl⟩:∃ l,lo=some l:=by cases lo with | none=>exact h.elim | some l=>exact ⟨l,rfl⟩
    obtain ⟨w',H',O',h1,h2,h3,h4⟩:=B1 (P:=P) hf.st (hp l rfl) ht h (hf.eval hj) (hf.eval hk)
    refine lZ (by simp only [execOp,cU];exact qE h1) ⟨M,L,H',env,O',h2,?_,h4,aah L⟩
    rw [hnone];exact ⟨h3,hf.size,hf.defers.ext h4⟩
   ·cases hc
    simp only [bp] at h
    obtain ⟨w',H',O',h1,h2,h3,h4⟩:=EC (P:=P) hf.st ht h (hf.eval hj) (hf.eval hk)
    refine lZ (by simp only [execOp,cU];exact qE h1) ⟨M,L,H',env,O',h2,?_,h4,aah L⟩
    rw [hnone];exact ⟨h3,hf.size,hf.defers.ext h4⟩
 | nilCheck x=>
   simp only [cw,cU] at hc
   obtain ⟨j,hj,rfl⟩:=yr.1 hc
   simp only [bp] at h
   exact bN hf hd (xJ cU h (hf.eval hj))
 | binOp op t x y yt=>
   simp only [cw,cU] at hc
   split at hc <;> try cases hc
   rename_i j k hj hk
   have hx:=hf.eval hj
   have hy:=hf.eval hk
   have plain:∀ {op},di op (au env j) (au env k) (fun z=>K (put o.dst z env) H)→o.op=.binOp op t x y yt→o.wpIn (wf ro) 0 P a w (nr A n M L w K) Q:=by
    intro op h cU
    obtain ⟨r,z,h1,h2,h3,h4⟩:=JK (P:=P) (w:=w) (t:=t) h hx hy x y
    exact bN hf hd ⟨r,z,by simp only [execOp,cU];exact a7 h1,h2,h3,h4⟩
   split at hc
   ·cases hc
    simp only [bp] at h
    obtain ⟨r,z,h1,h2,h3,h4⟩:=vE (P:=P) (w:=w) (t:=t) h hx hy x y
    exact bN hf hd ⟨r,z,by simp only [execOp,cU];exact a7 h1,h2,h3,h4⟩
   ·cases hc
    simp only [bp] at h
    obtain ⟨r,z,h1,h2,h3,h4⟩:=vE (P:=P) (w:=w) (t:=t) h hx hy x y
    exact bN hf hd ⟨r,z,by simp only [execOp,cU];exact a7 h1,h2,h3,h4⟩
   ·split at hc <;> try cases hc
    ·rename_i ht
     simp only [bp] at h
     obtain ⟨r,z,h1,h2,h3,h4⟩:=tI (P:=P) (w:=w) (neq:=false) ht h hx hy x y
     exact bN hf hd ⟨r,z,by simp only [execOp,cU];exact a7 h1,h2,h3,h4⟩
    ·exact plain (op:=.eql) h cU
    ·exact plain (op:=.eql) h cU
    all_goals
     rename_i ht
     split at hc <;> cases hc
     simp only [bp] at h
     obtain ⟨r,z,h1,h2,h3,h4⟩:=vV (P:=P) (w:=w) (neq:=false) ht rfl h hx x (.const .nilFunc)
     exact bN hf hd ⟨r,z,by simp only [execOp,cU];exact a7 h1,h2,h3,h4⟩
   ·split at hc <;> try cases hc
    ·rename_i ht
     simp only [bp] at h
     obtain ⟨r,z,h1,h2,h3,h4⟩:=tI (P:=P) (w:=w) (neq:=true) ht h hx hy x y
     exact bN hf hd ⟨r,z,by simp only [execOp,cU];exact a7 h1,h2,h3,h4⟩
    ·exact plain (op:=.neq) h cU
    ·exact plain (op:=.neq) h cU
    all_goals
     rename_i ht
     split at hc <;> cases hc
     simp only [bp] at h
     obtain ⟨r,z,h1,h2,h3,h4⟩:=vV (P:=P) (w:=w) (neq:=true) ht rfl h hx x (.const .nilFunc)
     exact bN hf hd ⟨r,z,by simp only [execOp,cU];exact a7 h1,h2,h3,h4⟩
   ·cases hc;exact plain h cU
 | unOp op t x=>
   simp only [cw,cU] at hc
   obtain ⟨j,hj,rfl⟩:=yr.1 hc
   simp only [bp] at h
   obtain ⟨r,z,h1,h2,h3,h4⟩:=Ng (P:=P) (w:=w) h (hf.eval hj)
   exact bN hf hd ⟨r,z,by simp only [execOp,cU];exact a7 h1,h2,h3,h4⟩
 | convert src dst x=>
   simp only [cw,cU] at hc
   split at hc <;> try cases hc
   ·rename_i k1 k2 j hs RK hj
    simp only [bp] at h
    obtain ⟨r,z,h1,h2,h3,h4⟩:=z4 (P:=P) (w:=w) hs RK h (hf.eval hj)
    exact bN hf hd ⟨r,z,by simp only [execOp,cU];exact a7 h1,h2,h3,h4⟩
   ·rename_i j hs RK hj
    simp only [bp] at h
    obtain ⟨r,z,h1,h2,h3,h4⟩:=z8 (P:=P) (w:=w) hs RK h (hf.eval hj)
    exact bN hf hd ⟨r,z,by simp only [execOp,cU];exact a7 h1,h2,h3,h4⟩
   ·rename_i e j hs RK hj
    split at hc <;> cases hc
    rename_i he
    simp only [bp] at h
    obtain ⟨r,z,w',M',ob,h1,h2,h3,h4,h5,h6,h7,h8⟩:=z9 (P:=P) hf.st hs RK he h (hf.eval hj)
    exact vR hf hd (by simp only [execOp,cU];exact a7 h1) h2 h4 h5 h6 h7 h8 h3
   ·rename_i e j hs RK hj
    split at hc <;> cases hc
    rename_i he
    simp only [bp] at h
    obtain ⟨r,z,h1,h2,h3,h4⟩:=EG (P:=P) hf.st hs he RK h (hf.eval hj)
    exact bN hf hd ⟨r,z,by simp only [execOp,cU];exact a7 h1,h2,h3,h4⟩
 | makeFunc f first cap=>
   simp only [cw,cU] at hc
   split at hc <;> cases hc
   rename_i i j hi hj
   simp only [bp] at h
   refine bN hf hd ⟨.func f (first.map a.eval) (cap.map a.eval),_,?_,?_,h,by intro _ _ e;cases e⟩
   ·simp only [execOp,cU];rfl
   ·have:=aT.fn (M:=M) (L:=L) f (first.toList.map a.eval) (cap.toList.map a.eval) _ _ (vW hf hi) (vW hf hj)
    rw [show (first.toList.map a.eval).toArray=first.map a.eval by apply Array.ext';simp,show (cap.toList.map a.eval).toArray=cap.map a.eval by apply Array.ext';simp] at this
    exact this
 | makeMap t r=>
   cases r with
   | some r=>simp [cw,cU] at hc
   | none=>
     simp only [cw,cU] at hc
     cases hc
     simp only [bp] at h
     obtain ⟨r,L',w',h1,h2,h3,h4,h5⟩:=EJ (P:=P) hf.st t
     exact oI hf hd (by simp only [execOp,cU];exact a7 h1) h2 (by intro _ _ e;cases e) h3 h4 h5 h
 | makeSlice t l c=>
   simp only [cw,cU] at hc
   split at hc <;> try cases hc
   rename_i e k ht hk
   split at hc <;> try cases hc
   rename_i esz z bytes hz hb
   split at hc <;> try cases hc
   rename_i hcond
   obtain ⟨qt,Ai⟩:=hcond
   obtain ⟨p1,p2,p3,p4,p5⟩:=Gs hz
   obtain ⟨inf,gP,db⟩:=yr.1 p1
   obtain ⟨inf',nS,tN⟩:=yr.1 hb
   rw [gP] at nS;cases nS
   unfold fG at p2
   simp only [gP] at p2
   split at p2 <;> try cases p2
   rename_i zv pq
   split at hc
   ·cases hc
    simp only [bp] at h
    have uO:zv.cells.size=esz:=by have:=((cJ (M:=M) (L:=L) p2).gn p5).length;rw [p4] at this;simpa using this
    obtain ⟨r,w',M',b,h1,h2,h3,h4,h5,h6,h7,h8,h9,h10⟩:=EF (P:=P) hf.st ht gP pq db tN p3 qt uO h (hf.eval hk)
    exact vR hf hd (by simp only [execOp,cU];exact a7 h1) h2 h4 h5 h6 (fun q b' eu=>by cases eu;exact h7 q) (fun b' eu=>by cases eu;exact ⟨h8,h9,h10⟩) h3
   ·split at hc <;> cases hc
    rename_i hsame
    simp only [bp] at h
    have yy:a.eval l=a.eval c:=by
     unfold JZ at hsame
     split at hsame
     ·simp at hsame;subst hsame;rfl
     ·simp at hsame;subst hsame;rfl
     ·cases hsame
    have B5:∀ y∈z.cells,∀ own xs,y=.al own xs→own=0:=by
     intro y hy own xs e
     have:=aaL.1 Ai y hy
     subst e
     simpa using this
    obtain ⟨r,x,L',w',H',h1,h2,h3,h4,h5,h6,h7⟩:=EE (P:=P) hf.st ht gP pq db tN p3 qt p2 p5 p4 B5 h (hf.eval hk)
    exact oI hf hd (by simp only [execOp,cU,yy];exact a7 h1) h2 h3 h5 h6 h7 h4
 | slice t x lo hi mx=>
   simp only [cw,cU] at hc
   split at hc <;> try cases hc
   ·rename_i e i l h' m ht l9 hl hh hm
    split at hc <;> try cases hc
    rename_i esz he
    split at hc <;> cases hc
    rename_i h0
    by_cases Np:fl=4
    ·rw [if_pos Np] at h
     simp only [bp] at h
     obtain ⟨ad,k,c,own,ys,h1,h2,⟨h3,Zp⟩,h4⟩:=vI (P:=P) hf.st ht he h0 h.2 (hf.eval l9) h.1 (cq hf hl) (cq hf hh) (cq hf hm)
     cases h3
     obtain ⟨rfl,_⟩:=h4 (by omega)
     have hk:k=0:=by
      cases h2 with
      | gM=>rfl
      | al b off c own e cs xs he hx hn=>simp at hn
     subst hk
     exact bN hf hd ⟨_,_,by simp only [execOp,cU];exact a7 h1,.nC ad,Zp,by intro _ _ e;cases e⟩
    rw [if_neg Np] at h
    simp only [bp] at h
    unfold bD at h
    split at h
    ·rename_i e0 a0 b0 c0 d0 JT
     rw [← JT] at h
     split at h
     ·rename_i B4
      have UU:mx=none:=by
       cases mx with
       | none=>rfl
       | some q=>simp only [kw] at hm;obtain ⟨_,_,rfl⟩:=yr.1 hm;cases B4
      subst UU
      obtain ⟨r,z,h1,h2,h3,h4⟩:=Ca (P:=P) ht he h (hf.eval l9) (cq hf hl) (cq hf hh)
      exact bN hf hd ⟨r,z,by simp only [execOp,cU];exact a7 h1,h2,h3,h4⟩
     ·rename_i m0 B4
      have hm3:=cq (a:=a) hf hm
      rw [B4] at hm3
      obtain ⟨r,z,h1,h2,h3,h4⟩:=Cb (P:=P) ht he h (hf.eval l9) (cq hf hl) (cq hf hh) hm3
      exact bN hf hd ⟨r,z,by simp only [execOp,cU];exact a7 h1,h2,h3,h4⟩
    obtain ⟨ad,k,c,own,ys,h1,h2,h3,h4⟩:=vI (P:=P) hf.st ht he h0 h.2 (hf.eval l9) h.1 (cq hf hl) (cq hf hh) (cq hf hm)
    by_cases uF:own=0
    ·subst uF
     exact bN hf hd ⟨_,_,by simp only [execOp,cU];exact a7 h1,h2,h3,by intro _ _ e;cases e;rfl⟩
    ·obtain ⟨rfl,h5⟩:=h4 uF
     obtain ⟨O',pj⟩:=hf.Gl (dst:=o.dst) hd h2 (fun _=>h5)
     exact dc (by simp only [execOp,cU];exact a7 h1) ⟨M,L,H,_,O',h3,pj,Ext.refl A M w,aah L⟩
   ·rename_i i l h' ht l9 hl hh hm
    simp only [bp] at h
    have UU:mx=none:=by
     cases mx with
     | none=>rfl
     | some q=>simp only [kw] at hm;obtain ⟨_,_,hz⟩:=yr.1 hm;cases hz
    subst UU
    obtain ⟨r,z,h1,h2,h3,h4⟩:=xN (P:=P) (w:=w) ht h (hf.eval l9) (cq hf hl) (cq hf hh)
    exact bN hf hd ⟨r,z,by simp only [execOp,cU];exact a7 h1,h2,h3,h4⟩
 | fieldAddr s x f=>
   simp only [cw,cU] at hc
   split at hc <;> cases hc
   rename_i off sz j ht hj
   simp only [bp] at h
   obtain ⟨r,z,h1,h2,h3,h4⟩:=vF (P:=P) (w:=w) ht h (hf.eval hj)
   exact bN hf hd ⟨r,z,by simp only [execOp,cU];exact a7 h1,h2,h3,h4⟩
 | field s x f=>
   simp only [cw,cU] at hc
   split at hc <;> cases hc
   rename_i off sz j ht hj
   simp only [bp] at h
   obtain ⟨r,z,h1,h2,h3,h4⟩:=Ew (P:=P) (w:=w) ht h (hf.eval hj)
   exact bN hf hd ⟨r,z,by simp only [execOp,cU];exact a7 h1,h2,h3,h4⟩
 | indexAddr t x i=>
   simp only [cw,cU] at hc
   split at hc <;> try cases hc
   rename_i e j k ht hj hk
   obtain ⟨esz,he,rfl⟩:=yr.1 hc
   simp only [bp] at h
   obtain ⟨r,z,h1,h2,h3,h4⟩:=vG (P:=P) (w:=w) ht he h.2 h.1 (hf.eval hj) (hf.eval hk)
   exact bN hf hd ⟨r,z,by simp only [execOp,cU];exact a7 h1,h2,h3,h4⟩
 | index t x i=>
   simp only [cw,cU] at hc
   split at hc <;> try cases hc
   ·rename_i j k ht hj hk
    simp only [bp] at h
    obtain ⟨r,z,h1,h2,h3,h4⟩:=xI (P:=P) (w:=w) ht h (hf.eval hj) (hf.eval hk)
    exact bN hf hd ⟨r,z,by simp only [execOp,cU];exact a7 h1,h2,h3,h4⟩
   ·rename_i m e j k ht hj hk
    split at hc <;> cases hc
    rename_i he
    simp only [bp] at h
    obtain ⟨r,z,h1,h2,h3,h4⟩:=xH (P:=P) (w:=w) ht he h (hf.eval hj) (hf.eval hk)
    exact bN hf hd ⟨r,z,by simp only [execOp,cU];exact a7 h1,h2,h3,h4⟩
 | lookup t m k ok=>
   simp only [cw,cU] at hc
   split at hc <;> try cases hc
   rename_i kt et i j ht hi hj
   split at hc <;> cases hc
   rename_i kd z hk hz
   simp only [bp] at h
   obtain ⟨r,z,h1,h2,h3,h4⟩:=B8 (P:=P) hf.st ht hk hz h (hf.eval hi) (hf.eval hj)
   exact bN hf hd ⟨r,z,by simp only [execOp,cU];exact a7 h1,h2,h3,h4⟩
 | mapUpdate t m k x=>
   simp only [cU] at hnone
   simp only [cw,cU] at hc
   split at hc <;> try cases hc
   rename_i kt et i j y ht hi hj hy
   obtain ⟨kd,hk,rfl⟩:=yr.1 hc
   simp only [bp] at h
   obtain ⟨w',H',h1,h2,h3,h4⟩:=B9 (P:=P) hf.st ht hk h (hf.eval hi) (hf.eval hj) (hf.eval hy)
   refine lZ (by simp only [execOp,cU];exact qE h1) ⟨M,L,H',env,O,h2,?_,h4,aah L⟩
   rw [hnone];exact ⟨h3,hf.size,hf.defers.ext h4⟩
 | extract x i=>
   simp only [cw,cU] at hc
   obtain ⟨j,hj,rfl⟩:=yr.1 hc
   simp only [bp] at h
   obtain ⟨r,z,h1,h2,h3,h4⟩:=z3 (P:=P) (w:=w) h (hf.eval hj)
   exact bN hf hd ⟨r,z,by simp only [execOp,cU];exact a7 h1,h2,h3,h4⟩
 | call c=>
   simp only [cw,cU] at hc
   split at hc
   ·rename_i f nt
    split at hc <;> cases hc
    rename_i i js hi hj
    exact EL cU nt hi hj hp hf hd h
   ·rename_i nt
    split at hc <;> try cases hc
    rename_i x t hargs Ak
    have hcall:c={ callee:=.builtin .len,args:=#[x],argTypes:=#[t] }:=by
     obtain ⟨c1,c2,c3⟩:=c
     simp only at nt hargs Ak
     subst nt
     rw [show c2=#[x] from Array.ext' hargs,show c3=#[t] from Array.ext' Ak]
    subst hcall
    have fin:∀ {d:TypeDesc} {kd:Nat} {j:IX},P.underlying t=some d→aQ x=some j→jh d (au env j)=true→(fz (au env j) H fun z=>K (put o.dst z env) H)→o.wpIn (wf ro) 0 P a w (nr A n M L w K) Q:=by
     intro d kd j ht hj hk h
     obtain ⟨r,z,h1,h2,h3,h4⟩:=JO (P:=P) ht hf.st hk h (hf.eval hj) o.type
     refine bN hf hd ⟨r,z,?_,h2,h3,h4⟩
     simp only [execOp,cU,resolve,invoke,builtin,Sem.run_bind,Sem.run_pure,Result.andThen_ok,ac4,List.map_cons,List.map_nil,h1]
    split at hc <;> cases hc
    ·rename_i j ht hj;exact fin (kd:=0) ht hj (HT h.1) h.2
    ·rename_i e j ht hj;exact fin (kd:=0) ht hj (Ch h.1 e) h.2
    ·rename_i k e j ht hj;exact fin (kd:=0) ht hj (HU h.1 k e) h.2
   ·rename_i nt
    split at hc <;> try cases hc
    rename_i s x t t' hargs Ak
    split at hc <;> try cases hc
    rename_i htt
    subst htt
    split at hc <;> try cases hc
    rename_i e i j ht hi hj
    split at hc <;> try cases hc
    rename_i esz z bytes hz hb
    split at hc <;> try cases hc
    rename_i qt
    have hcall:c={ callee:=.builtin .append,args:=#[s,x],argTypes:=#[t,t] }:=by
     obtain ⟨c1,c2,c3⟩:=c
     simp only at nt hargs Ak
     subst nt
     rw [show c2=#[s,x] from Array.ext' hargs,show c3=#[t,t] from Array.ext' Ak]
    subst hcall
    split at hc
    ·split at hc <;> cases hc
     rename_i Ai
     exact xR cU ht hz hb qt Ai hi hj hf hd h
    split at hc
    ·split at hc <;> cases hc
     rename_i Ai
     exact xS cU ht hz hb qt Ai hi hj hf hd hp h
    cases hc
    exact Ah cU ht hz hb qt hi hj hf hd h
   ·rename_i nt
    split at hc <;> try cases hc
    rename_i x y hargs
    split at hc <;> cases hc
    rename_i i j hi hj
    simp only [bp] at h
    obtain ⟨r,z,h1,h2,h3,h4⟩:=Gm (P:=P) (w:=w) (big:=true) h (hf.eval hi) (hf.eval hj) c.argTypes o.type
    refine bN hf hd ⟨r,z,?_,h2,h3,h4⟩
    have hargs':c.args=#[x,y]:=Array.ext' hargs
    simp only [if_true] at h1
    simp only [execOp,cU,resolve,nt,invoke,builtin,Sem.run_bind,Sem.run_pure,Result.andThen_ok,hargs',ac4,List.map_cons,List.map_nil,h1]
   ·rename_i nt
    split at hc <;> try cases hc
    rename_i x y hargs
    split at hc <;> cases hc
    rename_i i j hi hj
    simp only [bp] at h
    obtain ⟨r,z,h1,h2,h3,h4⟩:=Gm (P:=P) (w:=w) (big:=false) h (hf.eval hi) (hf.eval hj) c.argTypes o.type
    refine bN hf hd ⟨r,z,?_,h2,h3,h4⟩
    have hargs':c.args=#[x,y]:=Array.ext' hargs
    simp only [abv,if_false] at h1
    simp only [execOp,cU,resolve,nt,invoke,builtin,Sem.run_bind,Sem.run_pure,Result.andThen_ok,hargs',ac4,List.map_cons,List.map_nil,h1]
   ·cases hc
 | _=>simp [cw,cU] at hc
theorem EM (o:Oper) (hf:Fr A n M L w H env O a) (hd:∀ d,o.dst=some d→d < n) (h:bp ⟨P,lo⟩ (qD P o) o.dst env H K):o.wpIn (wf ro) 0 P a w (nr A n M L w K) Q:=by
 cases cU:o.op with
 | call c=>
   simp only [qD,cU] at h
   split at h <;> try exact h.elim
   rotate_left
   ·rename_i nt
    split at h <;> try exact h.elim
    rename_i s t hargs Ak
    split at h <;> try exact h.elim
    rename_i e i ht hi
    split at h <;> try exact h.elim
    rename_i esz z hz
    simp only [bp] at h
    unfold cp at hz
    split at hz <;> try cases hz
    rename_i esz' z' MK ma
    split at hz <;> cases hz
    rename_i hcond
    obtain ⟨h0,hZ,pq⟩:=hcond
    obtain ⟨inf,gP,db⟩:=yr.1 MK
    unfold fG at ma
    simp only [gP] at ma
    split at ma <;> try cases ma
    rename_i zv so
    obtain ⟨w',H',O',h1,h2,h3,h4⟩:=Ce (P:=P) hf.st ht gP so h0 ma pq hZ h (hf.eval hi) o.type
    obtain ⟨O'',pj⟩:=(hf.mono h3 h4).nG (dst:=o.dst) hd (.tuple [] [] .nil) (by intro _ _ e;cases e)
    have hargs':c.args=#[s]:=Array.ext' hargs
    have J1:c.argTypes=#[t]:=Array.ext' Ak
    refine dc (v:=.tuple #[]) ?_ ⟨M,L,H',_,O'',h2,pj,h4,aah L⟩
    simp only [execOp,cU,resolve,nt,invoke,builtin,Sem.run_bind,Sem.run_pure,Result.andThen_ok,hargs',J1,ac4,List.map_cons,List.map_nil,h1]
   rename_i nt
   split at h <;> try exact h.elim
   rename_i s x t t' hargs Ak
   split at h <;> try exact h.elim
   rename_i e i j ht hi hj
   split at h <;> try exact h.elim
   rename_i esz he
   simp only [bp] at h
   obtain ⟨r,z,w',H',O',h1,h2,h3,h4,h5,h6⟩:=HO (P:=P) hf.st ht he h (hf.eval hi) (hf.eval hj) t' o.type
   obtain ⟨O'',pj⟩:=(hf.mono h4 h5).nG (dst:=o.dst) hd h2 h6
   have hargs':c.args=#[s,x]:=Array.ext' hargs
   have J1:c.argTypes=#[t,t']:=Array.ext' Ak
   refine dc (v:=r) ?_ ⟨M,L,H',_,O'',h3,pj,h5,aah L⟩
   simp only [execOp,cU,resolve,nt,invoke,builtin,Sem.run_bind,Sem.run_pure,Result.andThen_ok,hargs',J1,ac4,List.map_cons,List.map_nil,h1]
 | _=>simp only [qD,cU] at h;exact h.elim
theorem EN (o:Oper) (hf:Fr A n M L w H env O a) (hd:∀ d,o.dst=some d→d < n) (h:bp ⟨P,lo⟩ (nR P o) o.dst env H K):o.wpIn (wf ro) 0 P a w (nr A n M L w K) Q:=by
 have key:∀ {x:Operand},(o.op=.move x∨o.op=.assign x)→∀ {i:IX} {esz:Nat},aQ x=some i→(fH esz (au env i) H fun z H'=>K (put o.dst z env) H')→o.wpIn (wf ro) 0 P a w (nr A n M L w K) Q:=by
  intro x ho i esz hi h
  obtain ⟨z,M',H',O',h1,h2,h3,h4,h5⟩:=sw hf.st h (hf.eval hi)
  have bJ:(execOp a.eval o).run P w=.ok (.value (a.eval x)) w:=by
   rcases ho with ho | ho <;> simp [execOp,ho]
  obtain ⟨O'',pj⟩:=(hf.mono h3 h4).nG (dst:=o.dst) hd h1 h5
  exact dc bJ ⟨M',L,H',_,O'',h2,pj,h4,aah L⟩
 cases cU:o.op with
 | move x=>
   simp only [nR,cU] at h
   split at h <;> try exact h.elim
   rename_i hi ht
   split at h <;> try exact h.elim
   exact key (.inl cU) hi h
 | assign x=>
   simp only [nR,cU] at h
   split at h <;> try exact h.elim
   rename_i hi ht
   split at h <;> try exact h.elim
   exact key (.inr cU) hi h
 | _=>simp only [nR,cU] at h;exact h.elim
theorem Ci (o:Oper) (esz:Nat) (hf:Fr A n M L w H env O a) (hd:∀ d,o.dst=some d→d < n) (h:bp ⟨P,lo⟩ (lr esz o) o.dst env H K):o.wpIn (wf ro) 0 P a w (nr A n M L w K) Q:=by
 have key:∀ {x:Operand},(o.op=.move x∨o.op=.assign x)→∀ {i:IX},aQ x=some i→(fH esz (au env i) H fun z H'=>K (put o.dst z env) H')→o.wpIn (wf ro) 0 P a w (nr A n M L w K) Q:=by
  intro x ho i hi h
  obtain ⟨z,M',H',O',h1,h2,h3,h4,h5⟩:=sw hf.st h (hf.eval hi)
  have bJ:(execOp a.eval o).run P w=.ok (.value (a.eval x)) w:=by
   rcases ho with ho | ho <;> simp [execOp,ho]
  obtain ⟨O'',pj⟩:=(hf.mono h3 h4).nG (dst:=o.dst) hd h1 h5
  exact dc bJ ⟨M',L,H',_,O'',h2,pj,h4,aah L⟩
 cases cU:o.op with
 | move x=>
   simp only [lr,cU] at h
   split at h <;> try exact h.elim
   rename_i hi
   exact key (.inl cU) hi h
 | assign x=>
   simp only [lr,cU] at h
   split at h <;> try exact h.elim
   rename_i hi
   exact key (.inr cU) hi h
 | _=>simp only [lr,cU] at h;exact h.elim
theorem tS (o:Oper) {fl:Nat} (hp:∀ l,lo=some l→∀ id,l≤id→A.top id=none) (hf:Fr A n M L w H env O a) (hd:∀ d,o.dst=some d→d < n) (hnone:(match o.op with | .store .. | .mapUpdate ..=>o.dst=none | _=>True))
 (h:bp ⟨P,lo⟩ (Cf P o fl) o.dst env H K):o.wpIn (wf ro) 0 P a w (nr A n M L w K) Q:=by
 unfold Cf at h
 split at h
 ·exact EN o hf hd h
 split at h
 ·exact Ci o _ hf hd h
 cases hc:cw P o fl with
 | none=>rw [hc] at h;exact EM o hf hd h
 | some i=>rw [hc] at h;exact J0 o hc hp hf hd hnone h
end
end Go.aJ
end
section
namespace Go.aJ
open Go
section
variable {M:Mem} {L:List Nat}
theorem qI {n:Nat}:∀ {xs:List AV},(∀ x∈xs,x.cells.length≠0)→ak n (flat xs)=true→ak n xs=true
 | [],_,_=>rfl
 | x::xs,hx,h=>by
   rw [bb] at h ⊢
   intro y hy
   rcases UQ.1 hy with rfl | hy
   ·cases y with
    | agg ys=>
      simp only [AV.a8]
      rw [bb]
      intro z hz
      exact h z (by simp [flat,AV.cells,hz])
    | _=>exact h _ (by simp [flat,AV.cells])
   ·have:=qI (xs:=xs) (n:=n) (fun x qp=>hx x (aai _ qp)) (by
     rw [bb]
     intro z hz
     exact h z (by simp only [flat,List.flatMap_cons,abf] at hz ⊢;exact .inr hz))
    rw [bb] at this
    exact this y hy
theorem HV {n:Nat} {x:AV} (h:ak n x.cells=true):x.a8 n=true:=by
 cases x <;> simp_all [AV.cells,AV.a8,ak]
theorem aT.Nt {v:Value} {x:AV} (h:aT M L v x):x.a8 L.length=true:=by
 induction h using aT.rec (motive_2:=fun vs xs _=>ak L.length xs=true) with
 | al b off c own e cs xs he hx hn hle hc hr hm ih=>exact qI (fun x qp=>by rw [hx x qp];omega) ih
 | aU b off len cap id hl hc=>simp only [AV.a8,decide_eq_true_eq];exact aM hl
 | agg cs xs hr ih=>exact ih
 | tuple cs xs hr ih=>exact ih
 | ptr b off id hl=>simp only [AV.a8,decide_eq_true_eq];exact aM hl
 | aj b off cs x hr hm ih=>simp only [AV.a8];exact HV ih
 | map b id hl=>simp only [AV.a8,decide_eq_true_eq];exact aM hl
 | nF b id hl=>simp only [AV.a8,decide_eq_true_eq];exact aM hl
 | fn f fs cs xs ys h1 h2 i1 i2=>simp only [AV.a8,yu];exact ⟨i1,i2⟩
 | iface t v x h ih=>exact ih
 | cons v x vs xs h t i1 i2=>simp only [ak,yu];exact ⟨i1,i2⟩
 | nil=>rfl
 | _=>rfl
theorem aI.Nt:∀ {vs:List Value} {xs:List AV},aI M L vs xs→ak L.length xs=true
 | _,_,.nil=>rfl
 | _,_,.cons _ _ _ _ h t=>by simp only [ak,yu];exact ⟨h.Nt,t.Nt⟩
end
section
variable {A:Perm} {M:Mem} {L:List Nat} {w:World} {H:List aa} {ev:Nat→Value} {ea:Nat→AV} {O:Pos→Option Nat}
theorem St.oK (h:St A M L w H ev ea O) {id b:Nat} {st st':UR} {lc:iP} {es:List AV} {r':Loop} (bm:H[id]?=some (.loop st lc es)) (hL:L[id]?=some b)
 (hr:∀ r,w.heap[b]?=some (.loop r)→r'.params=r.params∧r'.assign=r.assign∧r'.body=r.body∧r'.tmps=r.tmps∧r'.defers=r.defers∧st'.ok r') :
 St A M L (w.putObj b (.loop r')) (H.set id (.loop st' lc es)) ev ea O∧Ext A M w M (w.putObj b (.loop r')):=by
 have yv:b∈L:=aaX hL
 have Rz:=h.lt b yv
 obtain ⟨r0,hc,p1,p2,p3,p4,p5⟩:=h.obj id _ b bm hL
 obtain ⟨q1,q2,q3,q4,q5,q6⟩:=hr r0 hc
 have gl:∀ k,k≠b→(w.putObj b (.loop r')).heap[k]?=w.heap[k]?:=fun k hk=>World.putObj_heap_other hk
 have nl:(w.putObj b (.loop r')).heap[b]?=some (.loop r'):=World.putObj_heap_same Rz
 have US:∀ o,M b o=none:=by
  intro o
  cases hm:M b o with
  | none=>rfl
  | some v=>
    have:=h.mem b o v hm
    simp [World.cell?,hc] at this
 have qx:id < H.length:=aM bm
 refine ⟨{ len:=by simp [h.len],nodup:=h.nodup,env:=h.env,mem:=?_,obj:=?_,bF:=?_,lt:=?_,iq:=?_,ic:=?_,cc:=h.cc,cu:=h.cu,fw:=?_,La:=h.La,Oa:=h.Oa,fresh:=?_ },?_⟩
 ·intro k o v hv
  have hk:k≠b:=by rintro rfl;rw [US o] at hv;cases hv
  have:=h.mem k o v hv
  simp only [World.cell?] at this ⊢
  rw [gl k hk];exact this
 ·intro id' o k ho hk
  by_cases e0:id'=id
  ·subst e0
   rw [hL] at hk;cases hk
   rw [Rx qx] at ho
   cases ho
   exact ⟨r',nl,q1.trans p1,q2.trans p2,q3.trans p3,by rw [q4];exact p4,q6⟩
  ·rw [yq (fun h'=>e0 h'.symm)] at ho
   have Ei:k≠b:=by
    rintro rfl
    exact e0 ((ac7 (aM hk) h.nodup).1 (hk.trans hL.symm))
   exact (h.obj id' o k ho hk).mono (Mem.bO M) (aah _) (gl k Ei) (fun _=>rfl)
 ·intro id' o ho
  rw [acD]
  by_cases e0:id'=id
  ·subst e0
   rw [Rx qx] at ho
   cases ho
   exact h.bF id' (.loop st lc es) bm
  ·rw [yq (fun h'=>e0 h'.symm)] at ho
   exact h.bF id' o ho
 ·intro k hk;simpa using h.lt k hk
 ·intro t
  exact (h.iq t).mono fun k hk=>⟨gl k (fun e3=>h.cu _ k hk (e3 ▸ yv)),fun _=>rfl⟩
 ·intro id' j
  by_cases e0:id'=id
  ·subst e0
   have hn:O (.c id' j)=none:=by
    have:=h.ic id' j
    simp only [bt,bm] at this
    exact this
   have e2:bt (H.set id' (.loop st' lc es)) id' j=.any:=by
    unfold bt
    rw [Rx qx]
   rw [e2,hn];rfl
  ·have e1:bM L (w.putObj b (.loop r')) id' j=bM L w id' j:=by
    unfold bM
    split
    ·rename_i k hk
     have Ei:k≠b:=by
      rintro rfl
      exact e0 ((ac7 (aM hk) h.nodup).1 (hk.trans hL.symm))
     simp only [World.cell?]
     rw [gl k Ei]
    ·rfl
   have e2:bt (H.set id (.loop st' lc es)) id' j=bt H id' j:=by
    unfold bt
    rw [yq (fun h'=>e0 h'.symm)]
   rw [e1,e2]
   exact (h.ic id' j).mono fun k hk=>⟨gl k (fun e3=>h.cu _ k hk (e3 ▸ yv)),fun _=>rfl⟩
 ·intro p k hp;simpa using h.fw p k hp
 ·intro k hk;simp at hk;exact h.fresh k hk
 ·exact ⟨Mem.bO M,by simp,rfl,rfl,rfl,fun k hk hA=>⟨gl k (fun e0=>hA (e0 ▸ h.La b yv)),fun _=>rfl⟩,fun k r hk=>by
   by_cases e0:k=b
   ·subst e0
    rw [hc] at hk;cases hk
    exact ⟨r',nl,q5⟩
   ·exact ⟨r,(gl k e0).trans hk,rfl⟩⟩
def Perm.VH (A:Perm) (D:Nat):Perm:=⟨fun b=>A b∧b≠D,A.top,A.ok,A.base⟩
def Perm.Le (A' A:Perm):Prop:=A'.top=A.top∧(∀ b,A' b→A b)∧A'.base=A.base
theorem Perm.Le.refl (A:Perm):A.Le A:=⟨rfl,fun _ h=>h,rfl⟩
theorem Perm.Le.trans {A B C:Perm} (h:A.Le B) (k:B.Le C):A.Le C:=⟨h.1.trans k.1,fun b hb=>k.2.1 b (h.2.1 b hb),h.2.2.trans k.2.2⟩
theorem Perm.Al (A:Perm) (D:Nat):(A.VH D).Le A:=⟨rfl,fun _ h=>h.1,rfl⟩
theorem Perm.Le.jd {A' A:Perm} (h:A'.Le A) (len id:Nat):A'.jd len id=A.jd len id:=by unfold Perm.jd;rw [h.1]
theorem Ext.le {A':Perm} {M':Mem} {w':World} (h:Ext A' M w M' w') (hl:A'.Le A):Ext A M w M' w':=
 ⟨h.lg,h.size,h.os,h.tape,h.output,fun b hb hA=>h.kK b hb fun h'=>hA (hl.2.1 b h'),h.loops⟩
theorem St.le {A':Perm} (h:St A' M L w H ev ea O) (hl:A'.Le A):St A M L w H ev ea O:=
 { h with bF:=fun id o ho=>by rw [← hl.jd];exact h.bF id o ho,La:=fun b hb=>hl.2.1 b (h.La b hb),Oa:=fun p b hp=>hl.2.1 b (h.Oa p b hp),fresh:=fun b hb=>hl.2.1 b (h.fresh b hb) }
theorem St.VH (h:St A M L w H ev ea O) {D:Nat} (h1:D∉L) (h2:∀ p,O p≠some D) (h3:D < w.heap.size):St (A.VH D) M L w H ev ea O:=
 { h with
   bF:=fun id o ho=>by rw [(A.Al D).jd];exact h.bF id o ho
   La:=fun b hb=>⟨h.La b hb,fun e=>h1 (e ▸ hb)⟩
   Oa:=fun p b hp=>⟨h.Oa p b hp,fun e=>h2 p (e ▸ hp)⟩
   fresh:=fun b hb=>⟨h.fresh b hb,fun e=>by omega⟩ }
theorem Ql.le {A':Perm} {ds:List Deferred} (h:Ql A w ds) (hl:A'.Le A):Ql A' w ds:=⟨by rw [hl.2.2];exact h.1,h.2.1,fun d hd=>by
 obtain ⟨D,h1,h2,h3,h4⟩:=h.2.2 d hd
 exact ⟨D,h1,h2,fun h'=>h3 (hl.2.1 D h'),by rw [hl.2.2];exact h4⟩⟩
end
end Go.aJ
end
section
namespace Go.aJ
open Go
structure bA where
 g:Option (Nat×Bool)
 dst:Option Nat
 op:bZ
 deriving Inhabited
inductive DT where
 | done
 | take (st:Bool) (o:bA) (r:DT)
 | br (o:bA) (t rest:DT)
 | nil
 deriving Inhabited
def inst (il:List bA):xF→DT
 | .done=>.done
 | .take i st r=>.take st (il.getD i default) (inst il r)
 | .br i t rest=>.br (il.getD i default) (inst il t) (inst il rest)
 | .nil=>.nil
inductive IR where
 | skip
 | region (ops:List bA) (live:Option (List Nat))
 | draw (t:DT) (live:Option (List Nat))
 | seq (a b:IR)
 | cond (x:IX) (a b:IR)
 | block (id:Nat) (a:IR)
 | loop (a:IR)
 | exit (id:Nat)
 | ret
 | never
 | jk (f:IX) (lc:iP)
 deriving Inhabited
def eJ (live:Option (List Nat)) (env:Env):Env:=
 match live with
 | none=>env
 | some l=>l.map fun t=>(t,get env t)
def iE (env:Env) (g:Nat) (want:Bool) (yes no:Env→Prop):Prop:=
 match get env g with
 | .bool b=>(b=want→yes ((g,.bool want)::env))∧(b=(!want)→no ((g,.bool (!want))::env))
 | .tuple []=>no env
 | _=>False
def sy (P:Px) (o:bA) (env:Env) (H:List aa) (K:Env→List aa→Prop):Prop:=
 match o.g with
 | none=>bp P o.op o.dst env H K
 | some (g,want)=>iE env g want (fun env=>bp P o.op o.dst env H K) (fun env=>K (put o.dst (.tuple []) env) H)
def jB (P:Px):List bA→Env→List aa→(Env→List aa→Prop)→Prop
 | [],env,H,K=>K env H
 | o::r,env,H,K=>sy P o env H fun env H=>jB P r env H K
def de (P:Px) (o:bZ) (ρ:IX→AV) (H:List aa) (x:AV):Prop:=
 match o with
 | .set i false=>(ρ i).ae=x
 | .pick c a b=>fc (ρ c) fun q=>(q=true→(ρ a).ae=x)∧(q=false→(ρ b).ae=x)
 | .bin op i j=>di op (ρ i) (ρ j) fun z=>z=x
 | .shift op i j=>dT op (ρ i) (ρ j) fun z=>z=x
 | .iB neq i j=>da neq (ρ i) (ρ j) fun z=>z=x
 | .ju kd neq i=>dl kd neq (ρ i) fun z=>z=x
 | .un op i=>zZ op (ρ i) fun z=>z=x
 | .lY i=>(ρ i).val=true∧.aj (ρ i)=x
 | .build z ps=>b7 z.cells (ps.map fun q=>(q.1,q.2.1,ρ q.2.2)) fun v=>v=x
 | .buildSlice own esz z len ps=>bj (List.replicate len (aP z)) esz (ps.map fun q=>(q.1,ρ q.2)) fun xs=>.al own xs=x
 | .load sz i=>aV sz (ρ i) H fun z=>z=x
 | .nilCheck i=>bU (ρ i) fun z=>z=x
 | .fieldAddr off sz i=>aq off sz (ρ i) fun z=>z=x
 | .field off sz i=>fe off sz (ρ i) fun z=>z=x
 | .indexAddr esz i j=>(∀ own xs,ρ i=.al own xs→∀ z∈xs,z.cells.length=esz)∧aC esz (ρ i) (ρ j) fun z=>z=x
 | .dj i j=>bK (ρ i) (ρ j) fun z=>z=x
 | .dR n i j=>bT n (ρ i) (ρ j) fun z=>z=x
 | .slice esz i lo hi mx=>bD esz (ρ i) (lo.map ρ) (hi.map ρ) (mx.map ρ) fun z=>z=x
 | .dS i lo hi=>cj (ρ i) (lo.map ρ) (hi.map ρ) fun z=>z=x
 | .len kd i=>aN kd (ρ i)∧fz (ρ i) H fun z=>z=x
 | .lookup kd z m k ok=>ct kd z (ρ m) (ρ k) ok H fun v=>v=x
 | .fn f first cap=>.fn f (first.map fun x=>(ρ x).ae) (cap.map fun x=>(ρ x).ae)=x
 | .extract i k=>bG (ρ i) k fun z=>z=x
 | .call f args none=>match ρ f with
   | .fn (.func g) first cap=>∃ bR,xP (first.map AV.ae++(args.map fun x=>(ρ x).ae)++cap.map AV.ae) bR∧aw P.prog g bR H (fun r H'=>r=x∧H'=H)
   | _=>False
 | .eV k i=>cC k (ρ i) fun z=>z=x
 | .gO i=>fQ (ρ i) fun z=>z=x
 | .bytesOf i=>fm 1 (ρ i) fun z=>z=x
 | .nJ esz bytes i=>ji esz bytes (ρ i) fun z=>z=x
 | .strOf i=>jN (ρ i) fun z=>z=x
 | .mx big i j=>xG big (ρ i) (ρ j) fun z=>z=x
 | _=>False
def dv (P:Px) (st:Bool) (o:bZ) (ρ:IX→AV) (H:List aa) (x:AV):Prop:=
 match st with
 | true=>de P o ρ H x
 | false=>∀ H',de P o ρ H' x
def tT (P:Px) (st:Bool) (o:bA) (env:Env) (H:List aa) (K:Env→Prop):Prop:=
 match o.g with
 | none=>∃ x,dv P st o.op (au env) H x∧K (put o.dst x env)
 | some (g,want)=>iE env g want (fun _=>∃ x,dv P st o.op (au env) H x∧K (put o.dst x env)) (fun _=>K (put o.dst (.tuple []) env))
def uS (P:Px):DT→Env→List aa→(Env→List aa→Prop)→Prop
 | .done,env,H,K=>K env H
 | .take st o r,env,H,K=>tT P st o env H fun env=>uS P r env H K
 | .br o t rest,env,H,K=>sy P o env H (fun env H=>uS P t env H K)∧uS P rest env H K
 | .nil,_,_,_=>True
def sle (n0:Nat) (env:Env) (H:List aa) (aF:Env) (H':List aa):Prop:=
 (∀ t,(get env t).le (get aF t))∧(H'=H∨∃ m,n0≤m∧H'=H.take m∧∀ t,(get aF t).a8 m=true)
def HW (n0:Nat) (env:Env) (H:List aa) (aF:Env) (H':List aa):Prop:=
 (∀ t,(get env t).le (get aF t))∧(H'=H∨∃ m,n0≤m∧H'=H.take m∧(∀ id o,n0≤id→id < m→H[id]?=some o→o.a8 m=true)∧∀ t,(get aF t).a8 m=true)
def HX (lo:Option Nat) (n0:Nat) (env:Env) (H:List aa) (aF:Env) (H':List aa):Prop:=
 match lo with
 | none=>sle n0 env H aF H'
 | some _=>HW n0 env H aF H'
def kS (n:Nat) (env:Env):List AV:=(List.range n).map fun t=>(get env t).ae
def behind (id:Nat) (H':List aa) (K:Option Code→List aa→Prop):Prop:=
 match H'[id]? with
 | some (.loop .ready lc es)=>K none (H'.set id (.loop .eO lc es))
 | some (.loop (.jump c) lc es)=>K (some c) (H'.set id (.loop .eO lc es))
 | _=>False
def pP (j:Option Code) (Q:Exit→Env→List aa→Prop) (env:Env) (H:List aa):Prop:=
 match j with
 | none=>Q .normal env H
 | some .ret=>Q .ret env H
 | some (.exit id)=>Q (.exit id) env H
 | _=>False
def m9 (P:Px) (n0:Nat):IR→Env→List aa→(Exit→Env→List aa→Prop)→Prop
 | .skip,env,H,Q=>Q .normal env H
 | .region ops live,env,H,Q=>jB P ops env H fun aF H'=>Q .normal (eJ live aF) H'
 | .draw t live,env,H,Q=>uS P t env H fun aF H'=>Q .normal (eJ live aF) H'
 | .seq a b,env,H,Q=>m9 P n0 a env H fun e aF H'=>match e with
   | .normal=>m9 P n0 b aF H' Q
   | e=>Q e aF H'
 | .cond x a b,env,H,Q=>fc (au env x) fun q=>(q=true→m9 P n0 a env H Q)∧(q=false→m9 P n0 b env H Q)
 | .block id a,env,H,Q=>m9 P n0 a env H fun e aF H'=>match e with
   | .exit id'=>if id'=id then Q .normal aF H' else Q (.exit id') aF H'
   | e=>Q e aF H'
 | .loop a,env,H,Q=>∃ (ι:Type) (I:ι→Prop) (se:ι→Env) (sh:ι→List aa) (μ:ι→Nat),(∃ i,I i∧HX P.lo n0 env H (se i) (sh i))∧
    ∀ i,I i→m9 P n0 a (se i) (sh i) fun e aF H'=>match e with
     | .normal=>∃ j,I j∧μ j < μ i∧HX P.lo n0 aF H' (se j) (sh j)
     | e=>Q e aF H'
 | .exit id,env,H,Q=>Q (.exit id) env H
 | .ret,env,H,Q=>Q .ret env H
 | .never,env,H,Q=>False
 | .jk f lc,env,H,Q=>match au env f with
   | .fn (.func g) first cap=>(∀ (as:Array Value) (w:World),(callFunc g as).run P.prog w=.ok (.enter g as) w)∧
     ∃ bR,xP (first.map AV.ae++[.nF H.length]++cap.map AV.ae) bR∧dW P g bR (H++[.loop .ready lc (kS lc.n env)]) fun _ H'=>behind H.length H' fun j H''=>pP j Q env H''
   | _=>False
def BQ.at_ (an:BQ) (r i:Nat):Nat:=match an.find? fun x=>x.1 == r && x.2.1 == i with | some x=>x.2.2 | none=>0
def mW.at_ (lv:mW) (r:Nat):Option (List Nat):=(lv.find? fun x=>x.1 == r).map (·.2)
def Gu (n:Nat) (o:Oper):Bool:=(match o.dst with | some d=>d < n | none=>true) && (match o.op with | .store .. | .mapUpdate ..=>o.dst.isNone | _=>true)
def Gv (ops:Array Oper) (o:Oper):Option (Option (Nat×Bool)):=
 match o.guard with
 | none=>some none
 | some (j,want)=>match (ops[j]?).bind (·.dst) with
   | some g=>some (some (g,want))
   | none=>none
def Gw (i:IX) (d:Nat):Bool:=match i with | .t s=>decide (s≠d) | _=>true
def RM (P:Program) (ops:Array Oper) (n:Nat) (fl:Nat) (o o':Oper):Option bA:=
 match fl,o.op,o.dst,o.guard,o'.op,o'.dst,o'.guard with
 | 2,.alloc e,some d,none,.store t (.tmp d') x,none,none=>
   if d=d'∧d < n∧t=e then (match aQ x,dL P t,fG P e with
    | some i,some m,some z=>if Gw i d=true∧z.cells.length=m∧z.val=true∧m≠0 then some ⟨none,some d,.sk m i⟩ else none
    | _,_,_=>none) else none
 | _,_,_,_,_,_,_=>none
def eW (P:Program) (ops:Array Oper) (an:BQ) (n rid:Nat) (fu:Bool):Nat→Nat→List Oper→Option (List bA)
 | _,_,[]=>some []
 | 0,_,_=>none
 | fuel + 1,k,o::r=>
   if an.at_ rid k=1000∧fu=true then
    match r with
    | o'::r'=>match RM P ops n 2 o o',eW P ops an n rid fu fuel (k + 2) r' with
      | some x,some xs=>some (x::xs)
      | _,_=>none
    | []=>none
   else
    match Gv ops o,eW P ops an n rid fu fuel (k + 1) r with
    | some g,some xs=>if Gu n o=true then some (⟨g,o.dst,Cf P o (an.at_ rid k)⟩::xs) else none
    | _,_=>none
def bZ.all:bZ→List IX
 | .set i _=>[i]
 | .pick c a b=>[c,a,b]
 | .bin _ i j | .shift _ i j | .iB _ i j | .indexAddr _ i j | .dj i j | .dR _ i j | .lookup _ _ i j _ | .mx _ i j | .store _ i j | .nI _ i j | .append _ _ i j | .jy _ _ _ i j | .kr _ _ _ i j | .copy _ i j=>[i,j]
 | .nL _ _ i | .zX _ i | .ju _ _ i | .un _ i | .box i | .lY i | .sk _ i | .load _ i | .tG _ _ i | .eH i | .nilCheck i | .fieldAddr _ _ i | .field _ _ i | .len _ i | .tH _ _ _ i | .nJ _ _ i | .extract i _ | .eV _ i | .gO i | .bytesOf i | .strOf i=>[i]
 | .fy i s=>[i,.t s]
 | .kL _ i j k=>[i,j,k]
 | .build _ ps=>ps.map fun q=>q.2.2
 | .buildSlice _ _ _ _ ps | .BT _ _ _ ps=>ps.map fun q=>q.2
 | .slice _ i lo hi m | .pL _ i lo hi m=>i::(lo.toList++hi.toList++m.toList)
 | .dS i lo hi=>i::(lo.toList++hi.toList)
 | .fn _ first cap=>first++cap
 | .call f args _=>f::args
 | .alloc _ | .nK | .never=>[]
def IX.Qp:List IX→List Nat:=fun l=>l.filterMap fun i=>match i with | .t s=>some s | .c _=>none
def bZ.kill:bZ→List Nat
 | .set (.t s) true=>[s]
 | .fy _ s=>[s]
 | .append _ _ (.t s) _=>[s]
 | .call _ args pass=>(match pass with | some j=>(match args[j]? with | some (.t s)=>[s] | _=>[]) | none=>[])
 | _=>[]
def bZ.RN:bZ→Bool
 | .box _ | .alloc _ | .eH _ | .store .. | .nI .. | .tG .. | .fy .. | .tH .. | .nK | .kL .. | .call .. | .copy .. | .zX .. | .BT .. | .jy .. | .kr .. | .nL .. | .never=>true
 | _=>false
def bA.lk (o:bA):List Nat:=IX.Qp o.op.all++(match o.g with | some (g,_)=>[g] | none=>[])
def bZ.UZ (o:bZ) (pure:Bool):Bool:=
 match o with
 | .set _ take=>!take
 | .call _ _ none=>pure
 | .never | .call .. | .append ..=>false
 | .sk ..=>false
 | o=>!o.RN
def bZ.yH:bZ→Bool
 | .box _ | .alloc _ | .nK=>true
 | _=>false
def bZ.stays:bZ→Bool
 | .call ..=>false
 | _=>true
def sA (st:Bool) (oi oj:bA):Bool:=
 (match oi.dst with | some d=>!oj.lk.contains d && oj.dst != some d && !oj.op.kill.contains d | none=>true) &&
 (match oj.dst with | some d=>!oi.lk.contains d | none=>true) &&
 oj.op.kill.all (fun s=>!oi.lk.contains s) && (!st || !oj.op.RN || (oj.op.yH && oi.op.stays))
def dt (ops:Array Oper):Nat→Nat→Nat→Bool
 | 0,_,_=>false
 | f + 1,j,i=>match ops[j]? with
   | some o=>o.after.any fun e=>Region.binds .any e && (e.on == i || dt ops f e.on i)
   | none=>false
def nT (ops:Array Oper) (il:List bA) (listed:Array Bool) (i:Nat) (st:Bool):Bool:=
 (List.range ops.size).all fun j=>j == i || listed.getD j true || dt ops ops.size j i || sA st (il.getD i default) (il.getD j default)
def uJ (ops:Array Oper) (il:List bA):Nat→Array Bool→Option (List Nat)→xF→Bool
 | _,listed,none,.done=>(Region.ready .any ops listed).isEmpty
 | f + 1,listed,none,.take i st r=>(Region.ready .any ops listed).contains i && (il.getD i default).op.UZ true && nT ops il listed i st && uJ ops il f (listed.setIfInBounds i true) none r
 | f + 1,listed,none,.br i t rest=>(match Region.ready .any ops listed with | k::ks=>k == i && uJ ops il f (listed.setIfInBounds i true) none t && uJ ops il (f + 1) listed (some ks) rest | []=>false)
 | f + 1,listed,some (k::ks),.br i t rest=>k == i && uJ ops il f (listed.setIfInBounds i true) none t && uJ ops il (f + 1) listed (some ks) rest
 | _,_,some [],.nil=>true
 | _,_,_,_=>false
def jT:List Edge→Nat
 | []=>0
 | e::r=>if Region.binds .any e=true then (1 <<< e.on) ||| jT r else jT r
def gT (rs:List Nat):List Edge→Nat
 | []=>0
 | e::r=>if Region.binds .any e=true∧e.on < rs.length then ((1 <<< e.on) ||| rs.getD e.on 0) ||| gT rs r else gT rs r
def fo:List Oper→List Nat→List Nat
 | [],acc=>acc
 | o::r,acc=>fo r (acc++[gT acc o.after.toList])
def mf (m:Nat):Nat→List Nat→List Nat
 | _,[]=>[]
 | i,a::r=>if m.testBit i=false∧a &&& m=a then i::mf m (i + 1) r else mf m (i + 1) r
def Cj (m i:Nat) (st:Bool) (oi:bA):Nat→List Nat→List bA→Bool
 | j,r::rs,o::os=>(j == i || m.testBit j || r.testBit i || sA st oi o) && Cj m i st oi (j + 1) rs os
 | _,_,[]=>true
 | _,[],_::_=>false
def lA (am rm:List Nat) (il:List bA):Nat→Nat→Option (List Nat)→xF→Bool
 | _,m,none,.done=>(mf m 0 am).isEmpty
 | f + 1,m,none,.take i st r=>(mf m 0 am).contains i && (il.getD i default).op.UZ true && Cj m i st (il.getD i default) 0 rm il && lA am rm il f (m ||| (1 <<< i)) none r
 | f + 1,m,none,.br i t rest=>(match mf m 0 am with | k::ks=>k == i && lA am rm il f (m ||| (1 <<< i)) none t && lA am rm il (f + 1) m (some ks) rest | []=>false)
 | f + 1,m,some (k::ks),.br i t rest=>k == i && lA am rm il f (m ||| (1 <<< i)) none t && lA am rm il (f + 1) m (some ks) rest
 | _,_,some [],.nil=>true
 | _,_,_,_=>false
def mX.at_ (pl:mX) (r:Nat):xF:=match pl.find? fun x=>x.1 == r with | some x=>x.2 | none=>.done
def comp (P:Program) (an:BQ) (lv:mW) (pl:mX) (n:Nat):Code→Option IR
 | .skip=>some .skip
 | .region id ops false=>(eW P ops an n id true (ops.size + 1) 0 ops.toList).map fun l=>.region l (lv.at_ id)
 | .region id ops true=>match eW P ops an n id false (ops.size + 1) 0 ops.toList with
   | some il=>if P.follows .mixedOrders=true∧lA (ops.toList.map fun o=>jT o.after.toList) (fo ops.toList []) il ops.size 0 none (pl.at_ id)=true then some (.draw (inst il (pl.at_ id)) (lv.at_ id)) else none
   | none=>none
 | .seq a b=>match comp P an lv pl n a,comp P an lv pl n b with
   | some x,some y=>some (.seq x y)
   | _,_=>none
 | .cond c a b=>match aQ c,comp P an lv pl n a,comp P an lv pl n b with
   | some i,some x,some y=>some (.cond i x y)
   | _,_,_=>none
 | .block id a=>(comp P an lv pl n a).map (.block id)
 | .loop a=>(comp P an lv pl n a).map .loop
 | .exit id=>some (.exit id)
 | .ret=>some .ret
 | .rangeFunc f ps as bd=>(aQ f).map fun i=>.jk i ⟨n,ps.toList,as,bd,an,lv,pl⟩
 | _=>some .never
theorem gf (n k:Nat):(1 <<< n).testBit k=decide (n=k):=by
 rw [Nat.shiftLeft_eq,Nat.one_mul,Nat.testBit_two_pow]
theorem EO (m:Nat):∀ (es:List Edge),(jT es &&& m=jT es)↔∀ e∈es,Region.binds .any e=true→m.testBit e.on=true:=by
 have key:∀ a:Nat,(a &&& m=a)↔∀ i,a.testBit i=true→m.testBit i=true:=by
  intro a
  constructor
  ·intro h i hi
   rw [← h] at hi
   simp only [Nat.testBit_and,yu] at hi
   exact hi.2
  ·intro h
   apply Nat.eq_of_testBit_eq
   intro i
   rw [Nat.testBit_and]
   cases ha:a.testBit i with
   | false=>simp
   | true=>simp [h i ha]
 intro es
 rw [key]
 induction es with
 | nil=>simp [jT]
 | cons e r ih=>
   simp only [jT]
   split
   ·rename_i hb
    constructor
    ·intro h e' BK eu
     rcases UQ.1 BK with rfl | BK
     ·exact h _ (by simp [gf])
     ·exact ih.1 (fun i hi=>h i (by simp [hi])) e' BK eu
    ·intro h i hi
     simp only [Nat.testBit_or,ab0,gf,decide_eq_true_eq] at hi
     rcases hi with rfl | hi
     ·exact h e (by simp) hb
     ·exact ih.2 (fun e' BK eu=>h e' (aai _ BK) eu) i hi
   ·rename_i hb
    constructor
    ·intro h e' BK eu
     rcases UQ.1 BK with rfl | BK
     ·exact absurd eu hb
     ·exact ih.1 h e' BK eu
    ·intro h
     exact ih.2 (fun e' BK eu=>h e' (aai _ BK) eu)
theorem mg {rs:List Nat} {i:Nat}:∀ {es:List Edge},(gT rs es).testBit i=true→∃ e∈es,Region.binds .any e=true∧e.on < rs.length∧(e.on=i∨(rs.getD e.on 0).testBit i=true)
 | [],h=>by simp [gT] at h
 | e::r,h=>by
   simp only [gT] at h
   split at h
   ·rename_i hb
    simp only [Nat.testBit_or,ab0,gf,decide_eq_true_eq] at h
    rcases h with h | h
    ·exact ⟨e,by simp,hb.1,hb.2,h⟩
    ·obtain ⟨e',BK,h'⟩:=mg h
     exact ⟨e',aai _ BK,h'⟩
   ·obtain ⟨e',BK,h'⟩:=mg h
    exact ⟨e',aai _ BK,h'⟩
theorem vX:∀ (l:List Oper) (acc:List Nat),∃ r,fo l acc=acc++r∧r.length=l.length
 | [],acc=>⟨[],by simp [fo],rfl⟩
 | o::l,acc=>by
   obtain ⟨r,h1,h2⟩:=vX l (acc++[gT acc o.after.toList])
   exact ⟨gT acc o.after.toList::r,by simp [fo,h1],by simp [h2]⟩
theorem vY:∀ (l:List Oper) (acc:List Nat) (j:Nat) (o:Oper),l[j]?=some o→(fo l acc)[acc.length + j]?=some (gT ((fo l acc).take (acc.length + j)) o.after.toList)
 | [],acc,j,o,h=>by simp at h
 | x::l,acc,0,o,h=>by
   simp at h
   subst h
   simp only [fo]
   obtain ⟨r,h1,h2⟩:=vX l (acc++[gT acc x.after.toList])
   rw [h1]
   simp
 | x::l,acc,j + 1,o,h=>by
   have ih:=vY l (acc++[gT acc x.after.toList]) j o (by simpa using h)
   simp only [fo]
   simp only [aab,List.length_cons,List.length_nil] at ih
   rw [show acc.length + (j + 1)=acc.length + (0 + 1) + j by omega]
   exact ih
theorem EP {ops:Array Oper} {i:Nat}:∀ (j f:Nat),j < f→j < ops.size→((fo ops.toList []).getD j 0).testBit i=true→dt ops f j i=true:=by
 intro j
 induction j using Nat.strongRecOn with
 | _ j ih=>
   intro f hf hj h
   have RP:ops[j]?=some ops[j]:=by simp [hj]
   have hg:=vY ops.toList [] j ops[j] (by simp [hj])
   simp only [List.length_nil,abw] at hg
   rw [sc,hg,Option.getD_some] at h
   obtain ⟨e,he,hb,aS,Vs⟩:=mg h
   have nu:e.on < j:=by simp at aS;omega
   cases f with
   | zero=>omega
   | succ f=>
     simp only [dt,RP]
     rw [Array.any_eq_true']
     refine ⟨e,by simpa using he,?_⟩
     simp only [yu,ab0,beq_iff_eq]
     refine ⟨hb,?_⟩
     rcases Vs with h1 | h1
     ·exact .inl h1
     ·refine .inr (ih e.on nu f (by omega) (by omega) ?_)
      have:((fo ops.toList []).take j).getD e.on 0=(fo ops.toList []).getD e.on 0:=by
       simp [sc,aam,nu]
      rw [this] at h1
      exact h1
def bitsOf (n:Nat) (listed:Array Bool) (m:Nat):Prop:=listed.size=n∧∀ k,m.testBit k=listed.getD k false
theorem vZ {n:Nat} {listed:Array Bool} {m i:Nat} (h:bitsOf n listed m) (hi:i < n):bitsOf n (listed.setIfInBounds i true) (m ||| (1 <<< i)):=by
 obtain ⟨h1,h2⟩:=h
 refine ⟨by simp [h1],fun k=>?_⟩
 rw [Nat.testBit_or,h2 k,gf]
 simp only [abe,adf]
 by_cases hk:i=k
 ·subst hk
  simp [h1,hi]
 ·simp [hk]
theorem v7 {ops:Array Oper} {listed:Array Bool} {m:Nat} (hb:bitsOf ops.size listed m):∀ (l:List Oper) (i:Nat),(∀ j,l[j]?=ops[i + j]?)→
 mf m i (l.map fun o=>jT o.after.toList)=(List.range' i l.length).filter fun i=>!listed.getD i true && ((ops[i]?).map (·.after.all fun e=>!Region.binds .any e || listed.getD e.on false)).getD false
 | [],i,_=>by simp [mf]
 | o::l,i,h=>by
   have h0:ops[i]?=some o:=by simpa using (h 0).symm
   have hi:i < ops.size:=(abZ.1 h0).1
   have ih:=v7 hb l (i + 1) (fun j=>by have:=h (j + 1);simpa [ac8,adS 1 j] using this)
   simp only [List.map_cons,mf,List.length_cons,List.range'_succ,List.filter_cons]
   have e1:(m.testBit i=false)↔(listed.getD i true=false):=by
    rw [hb.2 i]
    have:i < listed.size:=by rw [hb.1];exact hi
    simp [Array.getD,this]
   have e2:(jT o.after.toList &&& m=jT o.after.toList)↔(o.after.all fun e=>!Region.binds .any e || listed.getD e.on false)=true:=by
    rw [EO,Array.all_eq_true']
    simp only [Array.mem_toList_iff,ab0,abr,hb.2]
    constructor
    ·intro h e he
     cases hbe:Region.binds .any e with
     | false=>exact .inl rfl
     | true=>exact .inr (h e he hbe)
    ·intro h e he hbe
     rcases h e he with h | h
     ·rw [hbe] at h;cases h
     ·exact h
   by_cases hc:m.testBit i=false∧jT o.after.toList &&& m=jT o.after.toList
   ·rw [if_pos hc,if_pos (by rw [h0];simp only [Option.map_some,Option.getD_some,e1.1 hc.1,e2.1 hc.2,Bool.not_false,ac2]),ih]
   ·rw [if_neg hc,if_neg (by
     rw [h0]
     simp only [Option.map_some,Option.getD_some,yu,abr]
     intro h'
     exact hc ⟨e1.2 h'.1,e2.2 h'.2⟩),ih]
theorem sB {ops:Array Oper} {listed:Array Bool} {m:Nat} (hb:bitsOf ops.size listed m):mf m 0 (ops.toList.map fun o=>jT o.after.toList)=Region.ready .any ops listed:=by
 rw [v7 hb ops.toList 0 (by simp)]
 unfold Region.ready
 simp [List.range_eq_range']
theorem v8 {ops:Array Oper} {il:List bA} {listed:Array Bool} {m i:Nat} {st:Bool} {oi:bA} (hb:bitsOf ops.size listed m):∀ (rs:List Nat) (os:List bA) (j:Nat),(∀ k,os[k]?=il[j + k]?)→(∀ k,rs[k]?=(fo ops.toList [])[j + k]?)→Cj m i st oi j rs os=true→
 ∀ k,j≤k→k < ops.size→k < il.length→(k == i || listed.getD k true || dt ops ops.size k i || sA st oi (il.getD k default))=true
 | rs,[],j,h1,_,_,k,Qo,_,hk=>by
   have:=h1 (k - j)
   rw [show j + (k - j)=k by omega] at this
   simp at this
   omega
 | [],o::os,j,h1,h2,h,_,_,_,_=>by simp [Cj] at h
 | r::rs,o::os,j,h1,h2,h,k,Qo,EI,Cg=>by
   simp only [Cj,yu] at h
   by_cases hk:k=j
   ·subst hk
    have ho:il.getD k default=o:=by
     have:=h1 0
     simp at this
     rw [sc,← this];rfl
    have hr:(fo ops.toList []).getD k 0=r:=by
     have:=h2 0
     simp at this
     rw [sc,← this];rfl
    have h:=h.1
    simp only [ab0] at h ⊢
    rcases h with ((h | h) | h) | h
    ·exact .inl (.inl (.inl h))
    ·refine .inl (.inl (.inr ?_))
     rw [hb.2 k] at h
     have:k < listed.size:=by rw [hb.1];exact EI
     simpa [Array.getD,this] using h
    ·exact .inl (.inr (EP k _ EI EI (by rw [hr];exact h)))
    ·rw [ho];exact .inr h
   ·exact v8 hb rs os (j + 1) (fun q=>by have:=h1 (q + 1);simpa [ac8,adS 1 q] using this) (fun q=>by have:=h2 (q + 1);simpa [ac8,adS 1 q] using this) h.2 k (by omega) EI Cg
theorem qJ {ops:Array Oper} {listed:Array Bool} {i:Nat} (h:i∈Region.ready .any ops listed):i < ops.size:=by
 unfold Region.ready at h
 simp at h
 exact h.1
theorem J2 {ops:Array Oper} {il:List bA} (db:il.length=ops.size):∀ (p:xF) (f m:Nat) (listed:Array Bool) (rem:Option (List Nat)),bitsOf ops.size listed m→(∀ ks,rem=some ks→∀ k∈ks,k < ops.size)→
 lA (ops.toList.map fun o=>jT o.after.toList) (fo ops.toList []) il f m rem p=true→uJ ops il f listed rem p=true:=by
 intro p
 induction p with
 | done=>
   intro f m listed rem hb _ h
   cases rem with
   | none=>cases f <;> (simp only [lA,sB hb] at h;simpa [uJ] using h)
   | some ks=>cases ks <;> cases f <;> simp [lA] at h
 | nil=>
   intro f m listed rem hb _ h
   cases rem with
   | none=>cases f <;> simp [lA] at h
   | some ks=>cases ks <;> cases f <;> simp [lA] at h <;> simp [uJ]
 | take i st r ih=>
   intro f m listed rem hb _ h
   cases rem with
   | some ks=>cases ks <;> cases f <;> simp [lA] at h
   | none=>
     cases f with
     | zero=>simp [lA] at h
     | succ f=>
       simp only [lA,sB hb,yu] at h
       obtain ⟨⟨⟨h1,h2⟩,h3⟩,h4⟩:=h
       have hi:i < ops.size:=qJ (by simpa using h1)
       simp only [uJ,yu]
       refine ⟨⟨⟨h1,h2⟩,?_⟩,ih _ _ _ _ (vZ hb hi) (by simp) h4⟩
       unfold nT
       refine aaL.2 fun k hk=>?_
       have Vl:k < ops.size:=abq.1 hk
       exact v8 hb (fo ops.toList []) il 0 (fun k=>by rw [abw]) (fun k=>by rw [abw]) h3 k (ac1 _) Vl (by omega)
 | br i t rest J3 Gx=>
   intro f m listed rem hb aac h
   cases f with
   | zero=>cases rem with
     | none=>simp [lA] at h
     | some ks=>cases ks <;> simp [lA] at h
   | succ f=>
     cases rem with
     | none=>
       simp only [lA,sB hb] at h
       simp only [uJ]
       split at h
       ·rename_i k ks hr
        simp only [yu,beq_iff_eq] at h
        obtain ⟨⟨rfl,h1⟩,h2⟩:=h
        have hk:∀ q∈k::ks,q < ops.size:=fun q hq=>qJ (by rw [hr];exact hq)
        simp only [yu,beq_iff_eq,true_and]
        exact ⟨J3 _ _ _ _ (vZ hb (hk k (by simp))) (by simp) h1,Gx _ _ _ _ hb (fun ks' e q hq=>by cases e;exact hk q (by simp [hq])) h2⟩
       ·cases h
     | some ks=>
       cases ks with
       | nil=>simp [lA] at h
       | cons k ks=>
         simp only [lA,yu,beq_iff_eq] at h
         obtain ⟨⟨rfl,h1⟩,h2⟩:=h
         have hk:=aac _ rfl
         simp only [uJ,yu,beq_iff_eq,true_and]
         exact ⟨J3 _ _ _ _ (vZ hb (hk k (by simp))) (by simp) h1,Gx _ _ _ _ hb (fun ks' e q hq=>by cases e;exact hk q (by simp [hq])) h2⟩
theorem HY (n:Nat):bitsOf n (Array.replicate n false) 0:=⟨by simp,fun k=>by
 simp only [Nat.zero_testBit,abe,adT]
 split <;> rfl⟩
section
variable {ro:Option Nat} {P:Program} {lo:Option Nat} {A:Perm} {n:Nat} {M:Mem} {L:List Nat} {w:World} {H:List aa} {env:Env} {O:Pos→Option Nat} {a:Act} {ev:Nat→Value} {ea:Nat→AV}
def EQ (A:Perm) (n:Nat) (M0:Mem) (L0:List Nat) (w0:World) (Q:Exit→Env→List aa→Prop) (e:Exit) (a:Act) (w:World):Prop:=
 ∃ A' M L H env O,A'.Le A∧Q e env H∧Fr A' n M L w H env O a∧Ext A M0 w0 M w∧L0 <+: L
theorem Fr.ER (h:Fr A n M L w H env O a) {aF:Env} (he:get aF=get env):Fr A n M L w H aF O a:=⟨by rw [he];exact h.st,h.size,h.defers⟩
theorem Fr.weaken (h:Fr A n M L w H env O a) {aF:Env} (hl:∀ t,(get env t).le (get aF t)):∃ O',Fr A n M L w H aF O' a:=by
 obtain ⟨O',h'⟩:=h.st.weaken hl
 exact ⟨O',h',h.size,h.defers⟩
theorem le_refl (x:AV):x.le x:=.inl rfl
theorem RQ (x:AV):x.le .any:=.inr (.inl rfl)
theorem yI (live:Option (List Nat)) (env:Env) (t:Nat):(get env t).le (get (eJ live env) t):=by
 cases live with
 | none=>exact le_refl _
 | some l=>
   simp only [eJ]
   induction l with
   | nil=>exact RQ _
   | cons s l ih=>
     simp only [List.map_cons,get]
     split
     ·rename_i e;subst e;exact le_refl _
     ·exact ih
theorem get_mem {env:Env} {t:Nat} {x:AV} (h:get env t=x):x=.any∨(t,x)∈env:=by
 induction env with
 | nil=>left;exact h.symm
 | cons p r ih=>
   obtain ⟨k,v⟩:=p
   simp only [get] at h
   split at h
   ·rename_i e;subst e;subst h;right;simp
   ·rcases ih h with h' | h'
    ·exact .inl h'
    ·exact .inr (aai _ h')
theorem aD (n0:Nat) (env:Env) (H:List aa):sle n0 env H env H:=⟨fun t=>le_refl _,.inl rfl⟩
def fT (lo:Option Nat) (n0:Nat) (A:Perm):Prop:=(∀ id,id < n0→∃ m,m≤n0∧A.top id=some m)∧match lo with
 | none=>∀ id,n0≤id→A.top id=some (id + 1)
 | some l=>l=n0∧∀ id,n0≤id→A.top id=none
theorem fT.opens {n0:Nat} (h:fT lo n0 A):∀ l,lo=some l→∀ id,l≤id→A.top id=none:=by
 rintro l rfl id bm
 obtain ⟨_,rfl,h⟩:=h
 exact h id bm
theorem fT.low {n0 m:Nat} (h:fT lo n0 A) (hm:n0≤m) (hs:St A M L w H ev ea O):∀ id o,id < n0→H[id]?=some o→o.a8 m=true:=by
 intro id o bm ho
 obtain ⟨k,hk,e⟩:=h.1 id bm
 have:=hs.bF id o ho
 refine aa.cR ?_ o this
 unfold Perm.jd
 rw [e]
 exact abY (adN _ _) (by omega)
theorem fT.closed {n0 m:Nat} (h:fT none n0 A) (hm:n0≤m) (hs:St A M L w H ev ea O):∀ id o,id < m→H[id]?=some o→o.a8 m=true:=by
 intro id o bm ho
 by_cases e:id < n0
 ·exact h.low hm hs id o e ho
 ·have e1:=h.2 id (by omega)
  have:=hs.bF id o ho
  refine aa.cR ?_ o this
  unfold Perm.jd
  rw [e1]
  exact abY (adN _ _) (by omega)
theorem Fr.sle (h:Fr A n M L w H env O a) {aF:Env} {H':List aa} {L0:List Nat} (hA:fT lo L0.length A) (hL:L0 <+: L) (hl:HX lo L0.length env H aF H'):∃ L' O',Fr A n M L' w H' aF O' a∧L0 <+: L':=by
 have BL:HW L0.length env H aF H':=by
  unfold HX at hl
  split at hl
  ·obtain ⟨h1,h2⟩:=hl
   refine ⟨h1,?_⟩
   rcases h2 with rfl | ⟨m,hm,rfl,hb⟩
   ·exact .inl rfl
   ·exact .inr ⟨m,hm,rfl,fun id o _ bm ho=>hA.closed hm h.st id o bm ho,hb⟩
  ·exact hl
 obtain ⟨h1,h2⟩:=BL
 obtain ⟨O',hf⟩:=h.weaken h1
 rcases h2 with rfl | ⟨m,hm,rfl,hc,hb⟩
 ·exact ⟨L,O',hf,hL⟩
 ·obtain ⟨O'',bP⟩:=hf.st.cut m (fun id o bm ho=>by
   by_cases e:id < L0.length
   ·exact hA.low hm hf.st id o e ho
   ·exact hc id o (by omega) bm ho) hb
  refine ⟨L.take m,O'',⟨bP,hf.size,hf.defers⟩,?_⟩
  obtain ⟨r,rfl⟩:=hL
  exact ⟨r.take (m - L0.length),by rw [adY,aak hm]⟩
theorem Am {ops:Array Oper} {j g:Nat} (hg:(ops[j]?).bind (·.dst)=some g) (hf:Fr A n M L w H env O a) {b:Bool} (hb:get env g=.bool b):yielded ops a.tmps j=some b:=by
 have hr:=hf.st.env g
 rw [hb] at hr
 generalize hv:a.tmps.getD g undef=v at hr
 cases hr
 have:a.tmps[g]?=some (.bool b):=by
  rw [abe] at hv
  cases h:a.tmps[g]? with
  | none=>rw [h] at hv;cases hv
  | some v=>rw [h] at hv;simp at hv;rw [hv]
 simp [yielded,hg,this]
theorem xT {ops:Array Oper} {j g:Nat} (hg:(ops[j]?).bind (·.dst)=some g) (hf:Fr A n M L w H env O a) (hb:get env g=.tuple []):yielded ops a.tmps j=none:=by
 have hr:=hf.st.env g
 rw [hb] at hr
 generalize hv:a.tmps.getD g undef=v at hr
 cases hr with
 | tuple cs _ h=>
 rw [abe] at hv
 simp only [yielded,hg,Option.bind_some]
 cases h:a.tmps[g]? with
 | none=>rfl
 | some v=>rw [h] at hv;simp at hv;rw [hv]
theorem yJ {ops:Array Oper} {o:Oper} {fl:Nat} {g:Option (Nat×Bool)} (hg:Gv ops o=some g) (gA:Gu n o=true) (hp:∀ l,lo=some l→∀ id,l≤id→A.top id=none) (hf:Fr A n M L w H env O a) {K:Env→List aa→Prop} (h:sy ⟨P,lo⟩ ⟨g,o.dst,Cf P o fl⟩ env H K) (Q:Exit→Act→World→Prop) :
 if Region.wanted o (yielded ops a.tmps) then o.wpIn (wf ro) 0 P a w (nr A n M L w K) Q else nr A n M L w K (a.put o.dst undef) w:=by
 simp only [Gu,yu] at gA
 have hd:∀ d,o.dst=some d→d < n:=by
  intro d hd
  have:=gA.1
  rw [hd] at this
  simpa using this
 have hn:(match o.op with | .store .. | .mapUpdate ..=>o.dst=none | _=>True):=by
  have:=gA.2
  split at this <;> first | trivial | skip
  ·simpa using this
  ·simpa using this
 unfold Gv at hg
 split at hg
 ·rename_i MM
  cases hg
  rw [if_pos (by simp [Region.wanted,MM])]
  exact tS o hp hf hd hn h
 ·rename_i j want MM
  split at hg <;> cases hg
  rename_i g hgj
  simp only [sy,iE] at h
  split at h
  rotate_left
  ·rename_i hb
   have hy:=xT hgj hf hb
   rw [if_neg (by simp [Region.wanted,MM,hy])]
   obtain ⟨O',pj⟩:=hf.nG (dst:=o.dst) (v:=undef) (x:=.tuple []) hd (.tuple [] [] .nil) (by intro _ _ e;cases e)
   exact ⟨M,L,H,_,O',h,pj,Ext.refl A M w,aah L⟩
  ·exact h.elim
  rename_i b hb
  have hy:=Am hgj hf hb
  have VI:get ((g,AV.bool b)::env)=get env:=by
   rw [JJ];funext t;simp only [fF];split
   ·rename_i e;rw [e,hb]
   ·rfl
  by_cases hw:b=want
  ·subst hw
   rw [if_pos (by simp [Region.wanted,MM,hy])]
   exact tS o hp (hf.ER VI) hd hn (h.1 rfl)
  ·have Gy:b=!want:=by cases b <;> cases want <;> simp_all
   subst Gy
   rw [if_neg (by simp [Region.wanted,MM,hy])]
   obtain ⟨O',pj⟩:=(hf.ER VI).nG (dst:=o.dst) (v:=undef) (x:=.tuple []) hd (.tuple [] [] .nil) (by intro _ _ e;cases e)
   exact ⟨M,L,H,_,O',h.2 rfl,pj,Ext.refl A M w,aah L⟩
theorem nr.trans {K K':Env→List aa→Prop} {M':Mem} {L':List Nat} {w':World} {a':Act} {w'':World} (cD:Ext A M w M' w') (hL:L <+: L') (h:nr A n M' L' w' K a' w''):nr A n M L w K a' w'':=by
 obtain ⟨M2,L2,H2,cV,O2,h1,h2,h3,h4⟩:=h
 exact ⟨M2,L2,H2,cV,O2,h1,h2,cD.trans h3,hL.trans h4⟩
theorem Ck (w:World) (c c':Array Value) (e:TypeId):({ w with heap:=w.heap.push (.cells c e) }:World).setRow w.heap.size c'={ w with heap:=w.heap.push (.cells c' e) }:=by
 simp only [World.setRow]
 congr 1
 apply Array.ext
 ·simp
 ·intro i h1 h2
  rw [ad6]
  by_cases hi:w.heap.size=i
  ·subst hi;simp
  ·simp only [hi,if_false]
   have:i < w.heap.size:=by simp at h2;omega
   rw [adC this,adC this]
theorem ES {ops:Array Oper} {o o':Oper} {x:bA} (hx:RM P ops n 2 o o'=some x) (hf:Fr A n M L w H env O a) {K:Env→List aa→Prop} (h:sy ⟨P,lo⟩ x env H K) (r:List Oper) (Q:Exit→Act→World→Prop)
 (hrest:∀ a' w',nr A n M L w K a' w'→wpListIn (wf ro) 0 P ops Q r a' w'):wpListIn (wf ro) 0 P ops Q (o::o'::r) a w:=by
 unfold RM at hx
 split at hx <;> try cases hx
 rename_i e d t d' y _ cU gA MM aad VJ aae
 split at hx <;> try cases hx
 rename_i hcond
 obtain ⟨rfl,VC,rfl⟩:=hcond
 split at hx <;> try cases hx
 rename_i i m z hi hm hz
 split at hx <;> cases hx
 rename_i hcond
 obtain ⟨eU,hZ,pq,B4⟩:=hcond
 simp only [sy,bp] at h
 obtain ⟨ph,je,kM,hK⟩:=h
 have hr:=hf.eval hi
 have Ni:=hr.gn ph
 have qq:=Ni.length
 -- the zero value
 obtain ⟨inf,gP,db⟩:=yr.1 hm
 unfold fG at hz
 simp only [gP] at hz
 split at hz <;> try cases hz
 rename_i zv so
 have uO:zv.cells.size=m:=by have:=((cJ (M:=M) (L:=L) hz).gn pq).length;rw [hZ] at this;simpa using this
 have hrun1:(execOp a.eval o).run P w=.ok (.value (.pointer (some ⟨w.heap.size,0,none⟩))) { w with heap:=w.heap.push (.cells zv.cells t) }:=by
  simp only [execOp,cU]
  exact a7 (by simp only [Instr.alloc,zeroValue,typeInfo,Sem.run_bind,run_program,Result.andThen_ok,gP,Sem.run_pure,so];rfl)
 have hsize:d < a.tmps.size:=by rw [hf.size];exact VC
 have RF:(a.put (some d) (.pointer (some ⟨w.heap.size,0,none⟩))).eval (.tmp d)=.pointer (some ⟨w.heap.size,0,none⟩):=by
  show (a.put (some d) _).tmps.getD d undef=_
  rw [vD a d _ hsize d];simp [fF]
 have aaf:(a.put (some d) (.pointer (some ⟨w.heap.size,0,none⟩))).eval y=a.eval y:=by
  cases y with
  | tmp s=>
    simp [aQ] at hi;subst hi
    simp [Gw] at eU
    show (a.put (some d) _).tmps.getD s undef=a.tmps.getD s undef
    rw [vD a d _ hsize s];simp [fF,eU]
  | _=>rfl
 have bP:=run_storeCells_at P w.heap.size 0 t (a.eval y).cells.toList 0 zv.cells { w with heap:=w.heap.push (.cells zv.cells t) } (dK w _) (by simp at qq ⊢;omega) (Ni.gN kM)
 have hwhole:(zv.cells.toList.take (0 + 0)++(a.eval y).cells.toList++zv.cells.toList.drop (0 + 0 + (a.eval y).cells.toList.length)).toArray=(a.eval y).cells:=by
  have:zv.cells.toList.drop (0 + 0 + (a.eval y).cells.toList.length)=[]:=adV (by simp at qq ⊢;omega)
  rw [this];simp
 rw [hwhole,Ck] at bP
 have hrun2:(execOp (a.put (some d) (.pointer (some ⟨w.heap.size,0,none⟩))).eval o').run P { w with heap:=w.heap.push (.cells zv.cells t) }=.ok .skip { w with heap:=w.heap.push (.cells (a.eval y).cells t) }:=by
  simp only [execOp,aad,RF,aaf]
  refine qE ?_
  have hs:(sizeOf t).run P { w with heap:=w.heap.push (.cells zv.cells t) }=.ok m { w with heap:=w.heap.push (.cells zv.cells t) }:=by simp [sizeOf,typeInfo,gP,db]
  simp only [Instr.storeAt,Instr.sureAddr,storeVar,Sem.run_bind,Sem.run_pure,Result.andThen_ok,hs,ne_eq]
  rw [if_neg (by simp at qq;omega)]
  exact bP
 obtain ⟨g1,g2,g3⟩:=hf.st.Et (a.eval y).cells t
 have ff:aT (M.add w.heap.size (a.eval y).cells.toList) L (.pointer (some ⟨w.heap.size,0,none⟩)) (.aj (au env i)):=.aj _ _ _ _ (Ni.mono g2.lg (aah _)) g3
 obtain ⟨O',pj⟩:=(hf.mono g1 g2).nG (dst:=some d) (fun d' e=>by cases e;exact VC) ff (by intro _ _ e;cases e)
 have lB:=hrest _ _ ⟨_,L,H,_,O',hK,pj,g2,aah L⟩
 unfold wpListIn
 rw [if_pos (by simp [Region.wanted,MM])]
 refine lh hrun1 (by intro d e;cases e) ?_
 rw [Oper.uponIn_value,gA]
 unfold wpListIn
 rw [if_pos (by simp [Region.wanted,aae])]
 refine lh hrun2 (by intro d e;cases e) ?_
 rw [Oper.uponIn_skip,VJ]
 exact lB
theorem pQ {ops:Array Oper} {an:BQ} {rid:Nat} {fu:Bool} (hp:∀ l,lo=some l→∀ id,l≤id→A.top id=none) (Q:Exit→Act→World→Prop):∀ (fuel k:Nat) (l:List Oper) (il:List bA),eW P ops an n rid fu fuel k l=some il→∀ {M:Mem} {L:List Nat} {w:World} {H:List aa} {env:Env} {O:Pos→Option Nat} {a:Act} (K:Env→List aa→Prop),
 Fr A n M L w H env O a→jB ⟨P,lo⟩ il env H K→(∀ a' w',nr A n M L w K a' w'→Q .normal a' w')→wpListIn (wf ro) 0 P ops Q l a w
 | _,_,[],il,hc,M,L,w,H,env,O,a,K,hf,h,hQ=>by
   unfold eW at hc
   cases hc
   exact hQ a w ⟨M,L,H,env,O,h,hf,Ext.refl A M w,aah L⟩
 | 0,_,o::r,il,hc,_,_,_,_,_,_,_,_,_,_,_=>by simp [eW] at hc
 | fuel + 1,k,o::r,il,hc,M,L,w,H,env,O,a,K,hf,h,hQ=>by
   unfold eW at hc
   split at hc
   ·-- a new variable with its first value
    split at hc <;> try cases hc
    rename_i o' r'
    split at hc <;> cases hc
    rename_i x xs hx ew
    simp only [jB] at h
    refine ES hx hf h r' Q ?_
    rintro a' w' ⟨M',L',H',aF,O',k1,k2,k3,k4⟩
    exact pQ hp Q fuel (k + 2) r' xs ew K k2 k1 (fun a2 w2 h2=>hQ a2 w2 (nr.trans (K':=K) k3 k4 h2))
   ·split at hc <;> try cases hc
    rename_i g xs hg ew
    split at hc <;> cases hc
    rename_i gA
    simp only [jB] at h
    have h1:=yJ (ro:=ro) (ops:=ops) hg gA hp hf h Q
    have hrest:∀ a' w',nr A n M L w (fun env H=>jB ⟨P,lo⟩ xs env H K) a' w'→wpListIn (wf ro) 0 P ops Q r a' w':=by
     rintro a' w' ⟨M',L',H',aF,O',k1,k2,k3,k4⟩
     exact pQ hp Q fuel (k + 1) r xs ew K k2 k1 (fun a2 w2 h2=>hQ a2 w2 (nr.trans (K':=K) k3 k4 h2))
    unfold wpListIn
    split
    ·rename_i hw
     rw [if_pos hw] at h1
     exact Oper.wpIn_mono hrest h1
    ·rename_i hw
     rw [if_neg hw] at h1
     exact ⟨fun _ _=>trivial,hrest _ _ h1⟩
theorem EQ.trans {A':Perm} {M0 M1:Mem} {L0:List Nat} {w0 w1:World} {Q:Exit→Env→List aa→Prop} {e:Exit} {a:Act} {w:World} (hl:A'.Le A) (hx:Ext A M0 w0 M1 w1) (hp:EQ A' n M1 L0 w1 Q e a w):EQ A n M0 L0 w0 Q e a w:=by
 obtain ⟨A2,M,L,H,env,O,hA,h1,h2,h3,h4⟩:=hp
 exact ⟨A2,M,L,H,env,O,hA.trans hl,h1,h2,hx.trans (h3.le hl),h4⟩
theorem fT.le {n0:Nat} {A':Perm} (h:fT lo n0 A) (hl:A'.Le A):fT lo n0 A':=by
 unfold fT at *
 rw [hl.1]
 exact h
def Own (ro:Option Nat) (w:World):Prop:=∀ l,ro=some l→∃ r,w.heap[l]?=some (.loop r)
theorem Own.ext {M':Mem} {w':World} (h:Own ro w) (hx:Ext A M w M' w'):Own ro w':=fun l hl=>by
 obtain ⟨r,hr⟩:=h l hl
 obtain ⟨r',hr',_⟩:=hx.loops l r hr
 exact ⟨r',hr'⟩
theorem HZ (p:Nat→Prop) (h:∃ k,p k):∃ k,p k∧∀ j,p j→k≤j:=by
 obtain ⟨k,hk⟩:=h
 induction k using Nat.strongRecOn with
 | _ k ih=>
   by_cases hl:∃ j,j < k∧p j
   ·obtain ⟨j,hj,hp⟩:=hl
    exact ih j hj hp
   ·exact ⟨k,hk,fun j hj=>by
     rcases adO j k with h' | h'
     ·exact absurd ⟨j,h',hj⟩ hl
     ·exact h'⟩
theorem An {F:Fence} {k:Nat} {c:Code} {Q:Exit→Act→World→Prop} {w:World} {a:Act} {ι:Type} (I:ι→Act→World→Prop) (μ:ι→Nat)
 (round:∀ i a w,I i a w→c.wpIn F k P (Exit.then (fun a' w'=>∃ j,I j a' w'∧μ j < μ i) Q) a w) (i0:ι) (h0:I i0 a w):(Code.loop c).wpIn F k P Q a w:=by
 let p:Act→World→Nat→Prop:=fun a w k=>∃ i,I i a w∧μ i=k
 let ν:Act→World→Nat:=fun a w=>Classical.epsilon fun k=>p a w k∧∀ j,p a w j→k≤j
 have hν:∀ a w,(∃ i,I i a w)→p a w (ν a w)∧∀ j,p a w j→ν a w≤j:=by
  rintro a w ⟨i,hi⟩
  exact Classical.epsilon_spec (HZ (p a w) ⟨μ i,i,hi,rfl⟩)
 refine wpIn_loop (fun a w=>∃ i,I i a w) ν ⟨i0,h0⟩ ?_
 intro a w hI
 obtain ⟨⟨i,hi,hμ⟩,_⟩:=hν a w hI
 refine Go.wpIn_mono (round i a w hi) ?_
 intro e a' w' h
 cases e with
 | normal=>
   obtain ⟨j,hj,aS⟩:=h
   refine ⟨⟨j,hj⟩,?_⟩
   have:=(hν a' w' ⟨j,hj⟩).2 (μ j) ⟨j,hj,rfl⟩
   omega
 | _=>exact h
def yK (P:Program) (ro lo:Option Nat) (A:Perm) (n:Nat) (L0:List Nat):Prop:=
 ∀ {id:Nat} {ops:Array Oper} {il:List bA} {p:xF} {live:Option (List Nat)} {an:BQ} {M:Mem} {L:List Nat} {w:World} {H:List aa} {env:Env} {O:Pos→Option Nat} {a:Act} {M0:Mem} {w0:World} {Q:Exit→Env→List aa→Prop},
  P.follows .mixedOrders=true→lA (ops.toList.map fun o=>jT o.after.toList) (fo ops.toList []) il ops.size 0 none p=true→eW P ops an n id false (ops.size + 1) 0 ops.toList=some il→m9 ⟨P,lo⟩ L0.length (.draw (inst il p) live) env H Q→Fr A n M L w H env O a→Ext A M0 w0 M w→L0 <+: L→(Code.region id ops true).wpIn (wf ro) 0 P (EQ A n M0 L0 w0 Q) a w
theorem Cl {L0:List Nat} (hA:fT lo L0.length A) {f:Operand} {ps:Array Tmp} {as bd:Code} {an:BQ} {lv:mW} {pl:mX} {i:IX} (hi:aQ f=some i) {Q:Exit→Env→List aa→Prop}
 (xD:Own ro w) (h:m9 ⟨P,lo⟩ L0.length (.jk i ⟨n,ps.toList,as,bd,an,lv,pl⟩) env H Q) (hf:Fr A n M L w H env O a) (hL:L0 <+: L):(Code.rangeFunc f ps as bd).wpIn (wf ro) 0 P (EQ A n M L0 w Q) a w:=by
 have ML:=hf.eval hi
 simp only [m9] at h
 split at h <;> try exact h.elim
 rename_i g first cap VF
 obtain ⟨hcf,bR,hle,hcall⟩:=h
 rw [VF] at ML
 generalize hu:a.eval f=u at ML
 cases ML with
 | fn _ fs cs _ _ Aj sv=>
 refine wpIn_rangeFunc fun fn _=>?_
 -- the record
 have enter:∃ (l:Nat) (mark:List Deferred) (w1:World) (A1:Perm),(Instr.enterLoop fn a.tmps ps as bd ro).run P w=.ok (l,mark) w1∧A1.Le A∧
  Fr A1 n M (L++[l]) w1 (H++[.loop .ready ⟨n,ps.toList,as,bd,an,lv,pl⟩ (kS n env)]) env O { a with defers:=mark++a.defers }∧Ext A M w M w1:=by
  have Ab:aI M L a.tmps.toList (kS n env):=by
   refine aI.zU (by simp [kS,hf.size]) fun j x hx=>?_
   simp only [kS,acj] at hx
   obtain ⟨t,ht,rfl⟩:=yr.1 hx
   obtain ⟨mZ,rfl⟩:=aaw.1 ht
   simp only [List.length_range] at mZ
   simp only [List.getElem_range]
   have:=(hf.st.env j).ae
   refine ⟨a.tmps.getD j undef,?_,this⟩
   rw [abe,adk,adm (by rw [hf.size];exact mZ)]
   rfl
  have nD:(aa.loop .ready ⟨n,ps.toList,as,bd,an,lv,pl⟩ (kS n env)).a8 (H.length + 1)=true:=by
   simp only [aa.a8]
   have:=Ab.Nt
   rw [hf.st.len] at this
   exact bu (by omega) _ this
  cases ro with
  | none=>
    have hg:=hf.st.grow (w':={ w with heap:=w.heap.push (.deferred (some [])) }) (Mem.bO M) (fun b o v hv=>by
     have h1:=hf.st.mem b o v hv
     simp only [World.cell?] at h1 ⊢
     cases hb:w.heap[b]? with
     | none=>rw [hb] at h1;simp at h1
     | some ob=>rw [eB w _ (abZ.1 hb).1];exact h1) (by simp) (fun b hb=>eB w _ hb) (fun _ _ _=>rfl)
    have tU:Ext A M w M { w with heap:=w.heap.push (.deferred (some [])) }:=Ext.grow (Mem.bO M) (by simp) rfl rfl rfl (fun b hb=>eB w _ hb) (fun _ _ _=>rfl)
    have hb:=hg.VH (D:=w.heap.size) (fun hm=>by have:=hf.st.lt _ hm;omega) (fun p hp=>by have:=hf.st.fw _ _ hp;omega) (by simp)
    obtain ⟨g1,g2⟩:=hb.sj (.loop { state:=.ready,pending:=none,fn,tmps:=a.tmps,params:=ps,assign:=as,body:=bd,defers:=w.heap.size }) (.loop .ready ⟨n,ps.toList,as,bd,an,lv,pl⟩ (kS n env))
     (fun w' JS _=>⟨_,JS,(ad5).symm,rfl,rfl,Ab.mono (Mem.bO M) ⟨_,rfl⟩,rfl,rfl⟩) nD (fun j=>rfl)
    refine ⟨w.heap.size + 1,_,_,A.VH w.heap.size,run_enterLoop_outer _ _ _ _ _,A.Al _,⟨?_,hf.size,?_⟩,?_⟩
    ·have e1:({ w with heap:=w.heap.push (.deferred (some [])) }:World).heap.size=w.heap.size + 1:=by simp
     rw [e1] at g1
     exact g1
    ·have old:=((hf.defers.ext tU).le (A.Al w.heap.size)).ext g2
     refine ⟨old.1,?_,fun d hd=>?_⟩
     ·show (_::a.defers).Nodup
      rw [List.nodup_cons]
      refine ⟨fun hm=>?_,old.2.1⟩
      obtain ⟨D,e,hD,_⟩:=hf.defers.2.2 _ hm
      cases e
      have:=(abZ.1 hD).1
      omega
     rcases abf.1 hd with hd | hd
     ·rw [aal] at hd
      subst hd
      refine ⟨w.heap.size,rfl,?_,(fun h=>h.2 rfl),(show A.base≤w.heap.size from hf.defers.1)⟩
      show ((w.heap.push _).push _)[w.heap.size]?=_
      rw [Array.getElem?_push_lt (by simp)]
      simp
     ·exact old.2.2 d hd
    ·exact tU.trans (g2.le (A.Al _))
  | some l0=>
    obtain ⟨r0,hr0⟩:=xD l0 rfl
    obtain ⟨g1,g2⟩:=hf.st.sj (.loop { state:=.ready,pending:=none,fn,tmps:=a.tmps,params:=ps,assign:=as,body:=bd,defers:=r0.defers }) (.loop .ready ⟨n,ps.toList,as,bd,an,lv,pl⟩ (kS n env))
     (fun w' JS _=>⟨_,JS,(ad5).symm,rfl,rfl,Ab.mono (Mem.bO M) ⟨_,rfl⟩,rfl,rfl⟩) nD (fun j=>rfl)
    exact ⟨w.heap.size,[],_,A,run_enterLoop_inner hr0 _ _ _ _ _,Perm.Le.refl A,⟨g1,hf.size,by simpa using hf.defers.ext g2⟩,g2⟩
 obtain ⟨l,mark,w1,A1,he,ET,El,tU⟩:=enter
 have MN:L.length=H.length:=hf.st.len
 have qK:(L++[l])[H.length]?=some l:=by rw [← MN];simp
 have RR:fT lo L0.length A1:=hA.le ET
 obtain ⟨loose,uD,hcall⟩:∃ loose:Bool,(loose=true→∀ id,(H++[aa.loop .ready ⟨n,ps.toList,as,bd,an,lv,pl⟩ (kS n env)]).length≤id→A1.top id=none)∧
  kQ loose P g bR (H++[.loop .ready ⟨n,ps.toList,as,bd,an,lv,pl⟩ (kS n env)]) fun _ H'=>behind H.length H' fun j H''=>pP j Q env H'':=by
  unfold dW at hcall
  split at hcall
  ·exact ⟨false,by simp,hcall⟩
  ·rename_i l' BL
   rcases hcall with hcall | ⟨h1,hcall⟩
   ·exact ⟨false,by simp,hcall⟩
   ·exact ⟨true,fun _ id bm=>RR.opens l' BL id (by omega),hcall⟩
 have hry:aI M (L++[l]) (fs++[.func (.yield l) #[] #[]]) (first++[.nF H.length]):=
  (Aj.mono (Mem.bO M) ⟨_,rfl⟩).append (.one (.nF l _ qK))
 obtain ⟨Oc,qq,bP,fin⟩:=sx (o:=(⟨none,.move f,0, "",#[],none⟩:Oper)) (K:=fun aF H'=>aF=env∧behind H.length H' fun j H''=>pP j Q env H'') (xs:=[]) (js:=[]) rfl (pass:=none) hry (sv.mono (Mem.bO M) ⟨[l],rfl⟩)
  (by simpa [aH,AV.ae] using hle) El (fun d e=>by cases e) uD
 obtain ⟨vs,xK⟩:∃ vs:List Value,vs=fs++[.func (.yield l) #[] #[]]++cs:=⟨_,rfl⟩
 simp only [List.map_nil,abX] at qq bP
 rw [← xK] at qq bP
 refine ⟨l,mark,w1,{ target:=.fn (.func g) cs.toArray,args:=fs.toArray++#[.func (.yield l) #[] #[]] },w1,g,vs.toArray,w1,he,?_,fun _ _=>trivial,?_,(fun h=>by cases h),?_⟩
 ·have ec:a.eval (.const (.func (.yield l) #[] #[]))=.func (.yield l) #[] #[]:=rfl
  simp [resolve,hu,Deferred.ofValue,ec]
 ·have e1:(fs.toArray++#[.func (.yield l) #[] #[]]++cs.toArray:Array Value)=vs.toArray:=by
   apply Array.ext';simp [xK]
  simp only [invoke]
  rw [e1]
  exact hcf _ _
 ·rcases hcall (dz A1 loose (H++[aa.loop .ready ⟨n,ps.toList,as,bd,an,lv,pl⟩ (kS n env)]) (L++[l]) Oc w1) M (L++[l]) w1 vs.toArray Oc (kR A1 loose _ _ Oc w1) (by simpa using qq) bP with ⟨_,hc⟩ | ⟨v,w',r,H',M',L',O',h1,_⟩
  ·have ma:CallsIn (wf ro) (0 - 1) P g vs.toArray w1 _:=callsIn_wide.2 hc
   refine CallsIn.mono ma fun e w' he=>?_
   obtain ⟨v,r,H',M',L',O',rfl,hK,mb,cD,RS⟩:=he
   obtain ⟨M2,L2,H2,cV,O2,⟨rfl,hb⟩,tQ,Qq,RT⟩:=fin v r H' M' L' O' w' ⟨rfl,hK⟩ mb cD RS
   have pi:L2[H.length]?=some l:=gk RT qK
   have lX:L0 <+: L2:=hL.trans ((List.prefix_append L [l]).trans RT)
   unfold behind at hb
   split at hb
   ·rename_i lc es EU
    obtain ⟨r,q1,q2,q3,q4,q5,q6⟩:=tQ.st.obj _ _ l EU pi
    obtain ⟨k1,k2⟩:=tQ.st.oK (st':=.eO) (r':={ r with state:=.exhausted }) EU pi (fun r2 sv=>by rw [q1] at sv;cases sv;exact ⟨rfl,rfl,rfl,rfl,rfl,trivial⟩)
    exact ⟨none,_,(run_endLoop q1 (by rw [q6.1];simp)).trans (congrArg (fun p=>Result.ok p _) q6.2),A1,M2,L2,_,cV,O2,ET,hb,⟨k1,tQ.size,tQ.defers.ext k2⟩,tU.trans ((Qq.trans k2).le ET),lX⟩
   ·rename_i c lc es EU
    obtain ⟨r,q1,q2,q3,q4,q5,q6⟩:=tQ.st.obj _ _ l EU pi
    obtain ⟨k1,k2⟩:=tQ.st.oK (st':=.eO) (r':={ r with state:=.exhausted }) EU pi (fun r2 sv=>by rw [q1] at sv;cases sv;exact ⟨rfl,rfl,rfl,rfl,rfl,trivial⟩)
    refine ⟨some c,_,(run_endLoop q1 (by rw [q6.1];simp)).trans (congrArg (fun p=>Result.ok p _) q6.2),?_⟩
    unfold pP at hb
    split at hb
    ·rename_i e;cases e
    ·rename_i e;cases e
     exact wpIn_ret ⟨A1,M2,L2,_,cV,O2,ET,hb,⟨k1,tQ.size,tQ.defers.ext k2⟩,tU.trans ((Qq.trans k2).le ET),lX⟩
    ·rename_i e;cases e
     exact wpIn_exit ⟨A1,M2,L2,_,cV,O2,ET,hb,⟨k1,tQ.size,tQ.defers.ext k2⟩,tU.trans ((Qq.trans k2).le ET),lX⟩
    ·exact hb.elim
   ·exact hb.elim
  ·rw [hcf] at h1;cases h1
theorem sound {L0:List Nat} (hdraw:∀ A,fT lo L0.length A→yK P ro lo A n L0) {an:BQ} {lv:mW} {pl:mX}:∀ (c:Code) (ir:IR),comp P an lv pl n c=some ir→∀ {A:Perm} {M:Mem} {L:List Nat} {w:World} {H:List aa} {env:Env} {O:Pos→Option Nat} {a:Act} {Q:Exit→Env→List aa→Prop},
 fT lo L0.length A→Own ro w→m9 ⟨P,lo⟩ L0.length ir env H Q→Fr A n M L w H env O a→L0 <+: L→c.wpIn (wf ro) 0 P (EQ A n M L0 w Q) a w:=by
 intro c
 induction c with
 | skip=>
   intro ir hc A M L w H env O a Q hA xD h hf hL
   simp only [comp] at hc;cases hc
   exact wpIn_skip ⟨A,M,L,H,env,O,.refl A,h,hf,Ext.refl A M w,hL⟩
 | exit id=>
   intro ir hc A M L w H env O a Q hA xD h hf hL
   simp only [comp] at hc;cases hc
   exact wpIn_exit ⟨A,M,L,H,env,O,.refl A,h,hf,Ext.refl A M w,hL⟩
 | ret=>
   intro ir hc A M L w H env O a Q hA xD h hf hL
   simp only [comp] at hc;cases hc
   exact wpIn_ret ⟨A,M,L,H,env,O,.refl A,h,hf,Ext.refl A M w,hL⟩
 | region id ops draw=>
   intro ir hc A M L w H env O a Q hA xD h hf hL
   cases draw with
   | true=>
     simp only [comp] at hc
     split at hc <;> try cases hc
     rename_i il BJ
     split at hc <;> cases hc
     rename_i hm
     exact hdraw A hA hm.1 hm.2 BJ h hf (Ext.refl A M w) hL
   | false=>
     simp only [comp] at hc
     obtain ⟨il,BJ,rfl⟩:=yr.1 hc
     simp only [m9] at h
     refine wpIn_region_list (pQ hA.opens _ _ _ _ _ BJ _ hf h ?_)
     rintro a' w' ⟨M',L',H',aF,O',h1,h2,h3,h4⟩
     obtain ⟨O'',h5⟩:=h2.weaken (yI (lv.at_ id) aF)
     exact ⟨A,M',L',H',_,O'',.refl A,h1,h5,h3,hL.trans h4⟩
 | seq x y ihx ihy=>
   intro ir hc A M L w H env O a Q hA xD h hf hL
   simp only [comp] at hc
   split at hc <;> cases hc
   rename_i x' y' hx hy
   simp only [m9] at h
   refine wpIn_seq (Go.wpIn_mono (ihx _ hx hA xD h hf hL) ?_)
   rintro e a' w' ⟨A',M',L',H',aF,O',hl,h1,h2,h3,h4⟩
   cases e with
   | normal=>exact Go.wpIn_mono (ihy _ hy (hA.le hl) (xD.ext h3) h1 h2 h4) fun e a w hp=>hp.trans hl h3
   | _=>exact ⟨A',M',L',H',aF,O',hl,h1,h2,h3,h4⟩
 | cond x c d ihc ihd=>
   intro ir hc A M L w H env O a Q hA xD h hf hL
   simp only [comp] at hc
   split at hc <;> cases hc
   rename_i i c' d' hi Ao Zq
   simp only [m9] at h
   obtain ⟨q,hq,h⟩:=oJ h
   have hr:=hf.eval hi
   rw [hq] at hr
   generalize hu:a.eval x=u at hr
   cases hr
   refine wpIn_cond_split hu (fun e=>ihc _ Ao hA xD (h.1 e) hf hL) (fun e=>ihd _ Zq hA xD (h.2 e) hf hL)
 | block id c ih=>
   intro ir hc A M L w H env O a Q hA xD h hf hL
   simp only [comp] at hc
   obtain ⟨c',Ao,rfl⟩:=yr.1 hc
   simp only [m9] at h
   refine wpIn_block (Go.wpIn_mono (ih _ Ao hA xD h hf hL) ?_)
   rintro e a' w' ⟨A',M',L',H',aF,O',hl,h1,h2,h3,h4⟩
   cases e with
   | exit id'=>
     simp only [Exit.inBlock]
     simp only at h1
     split at h1
     ·rename_i e;rw [if_pos e];exact ⟨A',M',L',H',aF,O',hl,h1,h2,h3,h4⟩
     ·rename_i e;rw [if_neg e];exact ⟨A',M',L',H',aF,O',hl,h1,h2,h3,h4⟩
   | _=>exact ⟨A',M',L',H',aF,O',hl,h1,h2,h3,h4⟩
 | loop c ih=>
   intro ir hc A M L w H env O a Q hA xD h hf hL
   simp only [comp] at hc
   obtain ⟨c',Ao,rfl⟩:=yr.1 hc
   simp only [m9] at h
   obtain ⟨ι,I,se,sh,μ,⟨i0,uQ,VK⟩,hround⟩:=h
   obtain ⟨L',O',pj,RS⟩:=hf.sle hA hL VK
   refine An (fun i a' w'=>I i∧∃ A' M' L' O',A'.Le A∧Fr A' n M' L' w' (sh i) (se i) O' a'∧Ext A M w M' w'∧L0 <+: L') μ ?_ i0 ⟨uQ,A,M,L',O',.refl A,pj,Ext.refl A M w,RS⟩
   rintro i a1 w1 ⟨hi,A1,M1,L1,O1,qK,El,tU,Zr⟩
   refine Go.wpIn_mono (ih _ Ao (hA.le qK) (xD.ext tU) (hround i hi) El Zr) ?_
   rintro e a' w' ⟨A',M',L',H',aF,O',hl,h1,h2,h3,h4⟩
   cases e with
   | normal=>
     obtain ⟨j,hj,aS,hs⟩:=h1
     obtain ⟨L2,O2,tQ,RT⟩:=h2.sle ((hA.le qK).le hl) h4 hs
     exact ⟨j,⟨hj,A',M',L2,O2,hl.trans qK,tQ,tU.trans (h3.le qK),RT⟩,aS⟩
   | _=>exact ⟨A',M',L',H',aF,O',hl.trans qK,h1,h2,tU.trans (h3.le qK),h4⟩
 | rangeFunc f ps as bd=>
   intro ir hc A M L w H env O a Q hA xD h hf hL
   simp only [comp] at hc
   obtain ⟨i,hi,rfl⟩:=yr.1 hc
   exact Cl hA hi xD h hf hL
 | _=>
   intro ir hc A M L w H env O a Q hA xD h
   simp only [comp] at hc
   cases hc
   exact h.elim
end
end Go.aJ
end
section
namespace Go.aJ
open Go
section
variable {φ ψ:AV→Prop} (hm:∀ z,φ z→ψ z)
include hm
theorem sC {op:BinOp} {x y:AV} (h:di op x y φ):di op x y ψ:=by
 unfold di at *
 split at h <;> (try exact h.elim)
 ·obtain ⟨h0,h⟩:=h
  refine ⟨h0,?_⟩
  split at h <;> first | exact hm _ h | exact ⟨h.1,hm _ h.2⟩ | exact h.elim
 ·split at h <;> first | exact hm _ h | exact ⟨h.1,hm _ h.2⟩ | exact h.elim
theorem nU {op:BinOp} {x y:AV} (h:dT op x y φ):dT op x y ψ:=by
 unfold dT at *
 split at h <;> (try exact h.elim)
 obtain ⟨h0,h⟩:=h
 refine ⟨h0,?_⟩
 split at h <;> first | exact hm _ h | exact h.elim
theorem mh {neq:Bool} {x y:AV} (h:da neq x y φ):da neq x y ψ:=by
 unfold da at *
 split at h <;> first | exact hm _ h | exact h.elim
theorem tV {kd:Nat} {neq:Bool} {x:AV} (h:dl kd neq x φ):dl kd neq x ψ:=by
 unfold dl at *
 split at h
 ·exact hm _ h
 ·split at h
  ·exact ⟨hm _ h.1,hm _ h.2⟩
  ·exact h.elim
theorem v9 {op:UnOp} {x:AV} (h:zZ op x φ):zZ op x ψ:=by
 unfold zZ at *
 split at h <;> first | exact hm _ h | exact h.elim
theorem jU {sz:Option Nat} {x:AV} {H:List aa} (h:aV sz x H φ):aV sz x H ψ:=by
 unfold aV at *
 split at h <;> (try exact h.elim) <;> (split at h <;> (try exact h.elim)) <;> first | exact ⟨h.1,hm _ h.2⟩ | (split at h <;> exact ⟨h.1,hm _ h.2⟩)
theorem nV {off:Nat} {sz:Option Nat} {x:AV} (h:fe off sz x φ):fe off sz x ψ:=by
 unfold fe apart at *
 split at h <;> (try exact h.elim)
 split at h <;> first | exact ⟨h.1,hm _ h.2⟩ | exact ⟨h.1,h.2.1,hm _ h.2.2⟩
theorem jl {off:Nat} {sz:Option Nat} {x:AV} (h:aq off sz x φ):aq off sz x ψ:=by
 unfold aq apart at *
 split at h <;> (try exact h.elim)
 ·exact hm _ h
 ·split at h <;> first | exact ⟨h.1,hm _ h.2⟩ | exact ⟨h.1,h.2.1,hm _ h.2.2⟩
theorem jm {esz:Nat} {x i:AV} (h:aC esz x i φ):aC esz x i ψ:=by
 unfold aC at *
 split at h <;> first | exact ⟨h.1,h.2.1,hm _ h.2.2⟩ | exact h.elim
theorem jV {x i:AV} (h:bK x i φ):bK x i ψ:=by
 unfold bK at *
 split at h <;> first | exact ⟨h.1,h.2.1,hm _ h.2.2⟩ | exact h.elim
theorem jW {n:Nat} {x i:AV} (h:bT n x i φ):bT n x i ψ:=by
 unfold bT at *
 split at h <;> first | exact ⟨h.1,h.2.1,h.2.2.1,hm _ h.2.2.2⟩ | exact h.elim
theorem sD {x:AV} {H:List aa} (h:fz x H φ):fz x H ψ:=by
 unfold fz at *
 split at h <;> (try exact h.elim) <;> (try exact hm _ h)
 ·exact fun hl=>hm _ (h hl)
 ·split at h <;> first | exact hm _ h | exact h.elim
theorem kT {x:AV} {i:Nat} (h:bG x i φ):bG x i ψ:=by
 unfold bG at *
 split at h <;> first | exact ⟨h.1,hm _ h.2⟩ | exact h.elim
theorem jX {x:AV} (h:bU x φ):bU x ψ:=by
 unfold bU at *
 split at h <;> first | exact hm _ h | exact h.elim
theorem kU {k:IntKind} {x:AV} (h:cC k x φ):cC k x ψ:=by
 unfold cC at *
 split at h <;> first | exact hm _ h | exact h.elim
theorem wa {big:Bool} {x y:AV} (h:xG big x y φ):xG big x y ψ:=by
 unfold xG at *
 split at h <;> first | exact hm _ h | exact h.elim
theorem py {x:AV} (h:fQ x φ):fQ x ψ:=by
 unfold fQ at *
 split at h <;> first | exact hm _ h | exact h.elim
theorem pA {own:Nat} {x:AV} (h:fm own x φ):fm own x ψ:=by
 unfold fm at *
 split at h <;> first | exact ⟨h.1,hm _ h.2⟩ | exact h.elim
theorem tW {x:AV} (h:jN x φ):jN x ψ:=by
 unfold jN at *
 split at h <;> first | exact hm _ h | exact ⟨_,h.choose_spec.1,hm _ h.choose_spec.2⟩ | (obtain ⟨l,h1,h2⟩:=h;exact ⟨l,h1,hm _ h2⟩) | exact ⟨h.1,hm _ h.2⟩ | exact h.elim
theorem tX {esz bytes:Nat} {n:AV} (h:ji esz bytes n φ):ji esz bytes n ψ:=by
 unfold ji at *
 split at h <;> first | exact ⟨h.1,h.2.1,hm _ h.2.2⟩ | exact h.elim
theorem mi {kd:Nat} {z m k:AV} {ok:Bool} {H:List aa} (h:ct kd z m k ok H φ):ct kd z m k ok H ψ:=by
 unfold ct at *
 split at h <;> (try exact h.elim) <;> first | exact hm _ h | exact ⟨h.1,hm _ h.2⟩ | (split at h <;> (try exact h.elim) <;> first | exact hm _ h | exact ⟨h.1,hm _ h.2⟩ | (split at h <;> (try exact h.elim) <;> first | exact hm _ h | exact ⟨h.1,hm _ h.2⟩))
end
theorem eM {x:Option AV} {d:Nat} {φ ψ:Nat→Prop} (hm:∀ k,φ k→ψ k) (h:dV x d φ):dV x d ψ:=by
 unfold dV at *
 split at h <;> first | exact hm _ h | exact ⟨h.1,hm _ h.2⟩ | exact h.elim
theorem tY {esz:Nat} {x:AV} {lo hi mx:Option AV} {φ ψ:AV→Prop} (hm:∀ z,φ z→ψ z) (h:fN esz x lo hi mx φ):fN esz x lo hi mx ψ:=by
 unfold fN at *
 split at h <;> (try exact h.elim)
 refine eM (fun k h=>eM (fun l h=>⟨h.1,h.2.1,?_⟩) h) h
 obtain ⟨_,_,h⟩:=h
 split at h
 ·exact hm _ h
 ·exact ⟨h.1,eM (fun m h=>⟨h.1,h.2.1,hm _ h.2.2⟩) h.2⟩
theorem mj {esz:Nat} {x:AV} {lo hi mx:Option AV} {φ ψ:AV→Prop} (hm:∀ z,φ z→ψ z) (h:bD esz x lo hi mx φ):bD esz x lo hi mx ψ:=by
 unfold bD gR oH at *
 split at h
 ·split at h
  ·exact eM (fun k h=>eM (fun l h=>⟨h.1,h.2.1,hm _ h.2.2⟩) h) h
  ·exact ⟨h.1,eM (fun m h=>eM (fun k h=>eM (fun l h=>⟨h.1,h.2.1,h.2.2.1,hm _ h.2.2.2⟩) h) h) h.2⟩
 ·exact ⟨h.1,tY hm h.2⟩
theorem jY {x:AV} {lo hi:Option AV} {φ ψ:AV→Prop} (hm:∀ z,φ z→ψ z) (h:cj x lo hi φ):cj x lo hi ψ:=by
 unfold cj at *
 split at h <;> (try exact h.elim)
 exact eM (fun k h=>eM (fun l h=>⟨h.1,h.2.1,hm _ h.2.2⟩) h) h
theorem mn {φ ψ:List AV→Prop} (hm:∀ z,φ z→ψ z):∀ {ps:List (Nat×Nat×AV)} {zs:List AV},gE zs ps φ→gE zs ps ψ
 | [],zs,h=>hm _ h
 | (off,sz,x)::r,zs,h=>⟨h.1,h.2.1,h.2.2.1,mn hm h.2.2.2⟩
theorem gU {esz:Nat} {φ ψ:List AV→Prop} (hm:∀ z,φ z→ψ z):∀ {ps:List (Nat×AV)} {zs:List AV},bj zs esz ps φ→bj zs esz ps ψ
 | [],zs,h=>hm _ h
 | (i,x)::r,zs,h=>⟨h.1,h.2.1,h.2.2.1,gU hm h.2.2.2⟩
def RU (τ:Nat→AV) (dst:Option Nat) (x:AV):Nat→AV:=match dst with | some d=>fF τ d x | none=>τ
theorem kx (env:Env) (dst:Option Nat) (x:AV):get (put dst x env)=RU (get env) dst x:=by cases dst <;> rfl
theorem nW {lo:Option IX} {env:Env} {ρ:IX→AV} (h:∀ i∈lo.toList,au env i=ρ i):lo.map ρ=gS env lo:=by
 cases lo with
 | none=>rfl
 | some i=>simp [gS,h i (by simp)]
theorem nX {is:List IX} {env:Env} {ρ:IX→AV} (h:∀ i∈is,au env i=ρ i) (g:AV→AV):(is.map fun x=>g (au env x))=is.map fun x=>g (ρ x):=by
 apply acS
 intro i hi
 rw [h i hi]
theorem nY (env:Env):∀ (is:List IX) (j:Nat),aH env none j is=is.map fun x=>(au env x).ae
 | [],_=>rfl
 | .t s::r,j=>by simp [aH,nY env r,au]
 | .c v::r,j=>by simp [aH,nY env r,au]
theorem Cm {P:Px} {o:bZ} {dst:Option Nat} {ρ:IX→AV} {env:Env} {H:List aa} {x:AV} (h:de P o ρ H x) (hρ:∀ i∈o.all,au env i=ρ i) :
 bp P o dst env H fun e h=>h=H∧get e=get (put dst x env):=by
 have key:∀ z,z=x→(H=H∧get (put dst z env)=get (put dst x env)):=fun z e=>⟨rfl,e ▸ rfl⟩
 cases o with
 | set i take=>
   cases take with
   | true=>exact h.elim
   | false=>
     simp only [de,bZ.all,aal,forall_eq] at h hρ
     rw [← hρ] at h
     unfold bp
     cases dst with
     | none=>exact ⟨rfl,rfl⟩
     | some d=>
       subst h
       refine ⟨rfl,?_⟩
       cases i <;> rfl
 | pick c a b=>
   simp only [de,bZ.all,UQ,aaY,or_false,forall_eq_or_imp,forall_eq] at h hρ
   obtain ⟨h1,h2,h3⟩:=hρ
   rw [← h1,← h2,← h3] at h
   obtain ⟨q,hq,h⟩:=oJ h
   show fc (au env c) _
   rw [hq]
   exact ⟨fun e=>key _ (h.1 e),fun e=>key _ (h.2 e)⟩
 | bin op i j=>
   simp only [de,bZ.all,UQ,aaY,or_false,forall_eq_or_imp,forall_eq] at h hρ
   obtain ⟨h1,h2⟩:=hρ
   rw [← h1,← h2] at h
   exact sC key h
 | shift op i j=>
   simp only [de,bZ.all,UQ,aaY,or_false,forall_eq_or_imp,forall_eq] at h hρ
   obtain ⟨h1,h2⟩:=hρ
   rw [← h1,← h2] at h
   exact nU key h
 | iB neq i j=>
   simp only [de,bZ.all,UQ,aaY,or_false,forall_eq_or_imp,forall_eq] at h hρ
   obtain ⟨h1,h2⟩:=hρ
   rw [← h1,← h2] at h
   exact mh key h
 | mx big i j=>
   simp only [de,bZ.all,UQ,aaY,or_false,forall_eq_or_imp,forall_eq] at h hρ
   obtain ⟨h1,h2⟩:=hρ
   rw [← h1,← h2] at h
   exact wa key h
 | indexAddr esz i j=>
   simp only [de,bZ.all,UQ,aaY,or_false,forall_eq_or_imp,forall_eq] at h hρ
   obtain ⟨h1,h2⟩:=hρ
   rw [← h1,← h2] at h
   exact ⟨h.1,jm key h.2⟩
 | dj i j=>
   simp only [de,bZ.all,UQ,aaY,or_false,forall_eq_or_imp,forall_eq] at h hρ
   obtain ⟨h1,h2⟩:=hρ
   rw [← h1,← h2] at h
   exact jV key h
 | dR n i j=>
   simp only [de,bZ.all,UQ,aaY,or_false,forall_eq_or_imp,forall_eq] at h hρ
   obtain ⟨h1,h2⟩:=hρ
   rw [← h1,← h2] at h
   exact jW key h
 | lookup kd z i j ok=>
   simp only [de,bZ.all,UQ,aaY,or_false,forall_eq_or_imp,forall_eq] at h hρ
   obtain ⟨h1,h2⟩:=hρ
   rw [← h1,← h2] at h
   exact mi key h
 | ju kd neq i=>
   simp only [de,bZ.all,aal,forall_eq] at h hρ
   rw [← hρ] at h
   exact tV key h
 | un op i=>
   simp only [de,bZ.all,aal,forall_eq] at h hρ
   rw [← hρ] at h
   exact v9 key h
 | lY i=>
   simp only [de,bZ.all,aal,forall_eq] at h hρ
   rw [← hρ] at h
   exact ⟨h.1,key _ h.2⟩
 | load sz i=>
   simp only [de,bZ.all,aal,forall_eq] at h hρ
   rw [← hρ] at h
   exact jU key h
 | nilCheck i=>
   simp only [de,bZ.all,aal,forall_eq] at h hρ
   rw [← hρ] at h
   exact jX key h
 | fieldAddr off sz i=>
   simp only [de,bZ.all,aal,forall_eq] at h hρ
   rw [← hρ] at h
   exact jl key h
 | field off sz i=>
   simp only [de,bZ.all,aal,forall_eq] at h hρ
   rw [← hρ] at h
   exact nV key h
 | len kd i=>
   simp only [de,bZ.all,aal,forall_eq] at h hρ
   rw [← hρ] at h
   exact ⟨h.1,sD key h.2⟩
 | extract i k=>
   simp only [de,bZ.all,aal,forall_eq] at h hρ
   rw [← hρ] at h
   exact kT key h
 | eV k i=>
   simp only [de,bZ.all,aal,forall_eq] at h hρ
   rw [← hρ] at h
   exact kU key h
 | gO i=>
   simp only [de,bZ.all,aal,forall_eq] at h hρ
   rw [← hρ] at h
   exact py key h
 | bytesOf i=>
   simp only [de,bZ.all,aal,forall_eq] at h hρ
   rw [← hρ] at h
   exact pA key h
 | nJ esz bytes i=>
   simp only [de,bZ.all,aal,forall_eq] at h hρ
   rw [← hρ] at h
   exact tX key h
 | strOf i=>
   simp only [de,bZ.all,aal,forall_eq] at h hρ
   rw [← hρ] at h
   exact tW key h
 | build z ps=>
   simp only [de,bZ.all] at h hρ
   have:(ps.map fun q=>(q.1,q.2.1,au env q.2.2))=ps.map fun q=>(q.1,q.2.1,ρ q.2.2):=
    acS fun q hq=>by rw [hρ _ (aag.2 ⟨q,hq,rfl⟩)]
   show b7 z.cells (ps.map fun q=>(q.1,q.2.1,au env q.2.2)) (fun v=>H=H∧get (put dst v env)=get (put dst x env))
   rw [this]
   exact mn (fun v h=>key _ h) h
 | buildSlice own esz z len ps=>
   simp only [de,bZ.all] at h hρ
   have:(ps.map fun q=>(q.1,au env q.2))=ps.map fun q=>(q.1,ρ q.2):=
    acS fun q hq=>by rw [hρ _ (aag.2 ⟨q,hq,rfl⟩)]
   show bj _ _ (ps.map fun q=>(q.1,au env q.2)) _
   rw [this]
   exact gU (fun v h=>key (.al own v) h) h
 | slice esz i lo hi mx=>
   simp only [de,bZ.all,UQ,abf,forall_eq_or_imp] at h hρ
   obtain ⟨h1,h2⟩:=hρ
   rw [← h1,nW (fun i hi=>h2 i (.inl (.inl hi))),nW (fun i hi=>h2 i (.inl (.inr hi))),nW (fun i hi=>h2 i (.inr hi))] at h
   exact mj key h
 | dS i lo hi=>
   simp only [de,bZ.all,UQ,abf,forall_eq_or_imp] at h hρ
   obtain ⟨h1,h2⟩:=hρ
   rw [← h1,nW (fun i hi=>h2 i (.inl hi)),nW (fun i hi=>h2 i (.inr hi))] at h
   exact jY key h
 | fn f first cap=>
   simp only [de,bZ.all,abf] at h hρ
   refine key _ ?_
   rw [nX (fun i hi=>hρ i (.inl hi)) AV.ae,nX (fun i hi=>hρ i (.inr hi)) AV.ae]
   exact h
 | call f args pass=>
   cases pass with
   | some _=>exact h.elim
   | none=>
     simp only [de,bZ.all,UQ,forall_eq_or_imp] at h hρ
     obtain ⟨h1,h2⟩:=hρ
     rw [← h1] at h
     split at h <;> try exact h.elim
     rename_i g first cap hg
     show pw P (au env f) args none env H (fun r aF H'=>H'=H∧get (put dst r aF)=get (put dst x env))
     rw [hg]
     obtain ⟨bR,hl,hcall⟩:=h
     refine ⟨bR,?_,dW.of <| hcall.mono ?_⟩
     ·rw [nY,nX h2 AV.ae];exact hl
     ·rintro r H' ⟨hr,rfl⟩
      exact key r hr
 | _=>exact h.elim
end Go.aJ
end
section
namespace Go.aJ
open Go
theorem Co {m:Nat} {p x:AV} {H:List aa} {K K':List aa→Prop} (hm:∀ H',K H'→K' H') (h:iD m p x H K):iD m p x H K':=by
 unfold iD at *
 split at h <;> (try exact h.elim)
 split at h <;> (try exact h.elim)
 exact ⟨h.1,h.2.1,h.2.2.1,h.2.2.2.1,h.2.2.2.2.1,hm _ h.2.2.2.2.2⟩
theorem xU {p x:AV} {H:List aa} {K K':List aa→Prop} (hm:∀ H',K H'→K' H') (h:dU p x H K):dU p x H K':=by
 unfold dU at *
 split at h <;> (try exact h.elim)
 split at h <;> (try exact h.elim)
 exact ⟨h.1,h.2.1,h.2.2.1,hm _ h.2.2.2⟩
theorem Ap {esz bytes:Nat} {s x:AV} {φ ψ:List AV→Prop} (hm:∀ z,φ z→ψ z) (h:bw esz bytes s x φ):bw esz bytes s x ψ:=by
 unfold bw at *
 split at h <;> (try exact h.elim)
 exact ⟨h.1,h.2.1,hm _ h.2.2⟩
theorem xV {esz bytes:Nat} {z s x:AV} {H:List aa} {K K':AV→List aa→Prop} (hm:∀ v H',K v H'→K' v H') (h:cT esz bytes z s x H K):cT esz bytes z s x H K':=by
 unfold cT at *
 cases hr:dB x with
 | none=>
   rw [hr] at h
   simp only at h ⊢
   split at h <;> try exact h.elim
   rename_i id off len cap n ys vN
   cases hi:H[id]? with
   | none=>rw [hi] at h;exact h.elim
   | some ob=>
     rw [hi] at h
     cases ob with
     | cells es=>
       obtain ⟨a,b,c,d,e,f⟩:=h
       exact ⟨a,b,c,d,e,hm _ _ f⟩
     | _=>exact h.elim
 | some ys=>
   rw [hr] at h
   obtain ⟨h1,h⟩:=h
   refine ⟨h1,?_⟩
   cases s with
   | ah=>
     obtain ⟨a,b,c⟩:=h
     exact ⟨a,fun e=>hm _ _ (b e),fun e cap h1 h2=>⟨(c e cap h1 h2).1,hm _ _ (c e cap h1 h2).2⟩⟩
   | nC=>
     obtain ⟨a,b,c⟩:=h
     exact ⟨a,fun e=>hm _ _ (b e),fun e cap h1 h2=>⟨(c e cap h1 h2).1,hm _ _ (c e cap h1 h2).2⟩⟩
   | aU id off len cap=>
     simp only at h ⊢
     cases hi:H[id]? with
     | none=>rw [hi] at h;exact h.elim
     | some ob=>
       rw [hi] at h
       cases ob with
       | cells es=>
         obtain ⟨a,b,c,d,f⟩:=h
         exact ⟨a,b,c,fun e=>⟨(d e).1,hm _ _ (d e).2⟩,fun e eC h1 h2=>⟨(f e eC h1 h2).1,hm _ _ (f e eC h1 h2).2⟩⟩
       | _=>exact h.elim
   | _=>exact h.elim
theorem xW {lm:Nat→Nat} {esz bytes:Nat} {z s x:AV} {H:List aa} {K K':AV→List aa→Prop} (hm:∀ v H',K v H'→K' v H') (h:jR lm esz bytes z s x H K):jR lm esz bytes z s x H K':=by
 unfold jR at *
 cases hr:dB x with
 | none=>
   rw [hr] at h
   simp only at h ⊢
   split at h <;> try exact h.elim
   rename_i id off len cap n ys vN
   cases hi:H[id]? with
   | none=>rw [hi] at h;exact h.elim
   | some ob=>
     rw [hi] at h
     cases ob with
     | cells es=>
       obtain ⟨a,b,c,d,e,f⟩:=h
       exact ⟨a,b,c,d,e,hm _ _ f⟩
     | _=>exact h.elim
 | some ys=>
   rw [hr] at h
   obtain ⟨h1,h⟩:=h
   refine ⟨h1,?_⟩
   cases s with
   | ah=>
     obtain ⟨a,b,c⟩:=h
     exact ⟨a,fun e=>hm _ _ (b e),fun e cap h1 h2=>⟨(c e cap h1 h2).1,hm _ _ (c e cap h1 h2).2⟩⟩
   | nC=>
     obtain ⟨a,b,c⟩:=h
     exact ⟨a,fun e=>hm _ _ (b e),fun e cap h1 h2=>⟨(c e cap h1 h2).1,hm _ _ (c e cap h1 h2).2⟩⟩
   | aU id off len cap=>
     simp only at h ⊢
     cases hi:H[id]? with
     | none=>rw [hi] at h;exact h.elim
     | some ob=>
       rw [hi] at h
       cases ob with
       | cells es=>
         obtain ⟨a,b,c,d,f⟩:=h
         exact ⟨a,b,c,fun e=>⟨(d e).1,hm _ _ (d e).2⟩,fun e eC h1 h2=>⟨(f e eC h1 h2).1,hm _ _ (f e eC h1 h2).2⟩⟩
       | _=>exact h.elim
   | _=>exact h.elim
theorem xX {lo esz bytes:Nat} {z s x:AV} {H:List aa} {K K':AV→List aa→Prop} (hm:∀ v H',K v H'→K' v H') (h:lq lo esz bytes z s x H K):lq lo esz bytes z s x H K':=⟨h.1,xW hm h.2⟩
theorem Aq {esz:Nat} {z x:AV} {H:List aa} {K K':List aa→Prop} (hm:∀ H',K H'→K' H') (h:iM esz z x H K):iM esz z x H K':=by
 unfold iM at *
 split at h <;> (try exact h.elim)
 split at h <;> (try exact h.elim)
 exact ⟨h.1,h.2.1,h.2.2.1,hm _ h.2.2.2⟩
theorem Cp {esz bytes:Nat} {z n:AV} {H:List aa} {K K':AV→List aa→Prop} (hm:∀ v H',K v H'→K' v H') (h:gv esz bytes z n H K):gv esz bytes z n H K':=by
 unfold gv at *
 split at h <;> (try exact h.elim)
 exact ⟨h.1,h.2.1,h.2.2.1,hm _ _ h.2.2.2⟩
theorem Ar {kd:Nat} {m k x:AV} {H:List aa} {K K':List aa→Prop} (hm:∀ H',K H'→K' H') (h:fD kd m k x H K):fD kd m k x H K':=by
 unfold fD at *
 split at h <;> (try exact h.elim)
 split at h <;> (try exact h.elim)
 refine ⟨h.1,h.2.1,h.2.2.1,?_⟩
 obtain ⟨_,_,_,h⟩:=h
 split at h
 ·exact hm _ h
 ·exact ⟨h.1,hm _ h.2⟩
 ·exact h.elim
theorem EV {esz:Nat} {d s:AV} {H:List aa} {K K':AV→List aa→Prop} (hm:∀ v H',K v H'→K' v H') (h:jP esz d s H K):jP esz d s H K':=by
 unfold jP at *
 split at h <;> (try exact h.elim)
 split at h <;> (try exact h.elim)
 exact ⟨h.1,h.2.1,h.2.2.1,hm _ _ h.2.2.2⟩
theorem ky {esz:Nat} {x:AV} {H:List aa} {K K':AV→List aa→Prop} (hm:∀ v H',K v H'→K' v H') (h:dD esz x H K):dD esz x H K':=by
 unfold dD at *
 split at h
 ·split at h <;> (try exact h.elim)
  exact ⟨h.1,h.2.1,h.2.2.1,h.2.2.2.1,hm _ _ h.2.2.2.2⟩
 ·exact h.elim
 ·exact hm _ _ h
 ·exact hm _ _ h
theorem tZ {esz:Nat}:∀ {xs:List AV} {H:List aa} {K K':List AV→List aa→Prop} (hm:∀ v H',K v H'→K' v H') (h:jQ esz xs H K),jQ esz xs H K'
 | [],H,K,K',hm,h=>hm _ _ h
 | x::r,H,K,K',hm,h=>ky (fun v H' hk=>tZ (fun vs H'' h2=>hm _ _ h2) hk) h
theorem H5 {e id c:Nat} {H:List aa} {K K':List aa→Prop} (hm:∀ H',K H'→K' H') (h:Ae e id c H K):Ae e id c H K':=by
 unfold Ae at *
 split at h <;> (try exact h.elim)
 split at h <;> (try exact h.elim)
 ·exact ky (fun v H' hk=>⟨hk.1,hk.2.1,hm _ hk.2.2⟩) h
 ·exact hm _ h
theorem wb {esz:Nat} {x:AV} {H:List aa} {K K':AV→List aa→Prop} (hm:∀ v H',K v H'→K' v H') (h:fH esz x H K):fH esz x H K':=by
 unfold fH at *
 split at h
 ·exact tZ (fun v H' hk=>hm _ _ hk) h
 ·split at h
  ·rename_i hc;rw [if_pos hc];exact H5 (hm _) h
  ·rename_i hc;rw [if_neg hc];exact ky hm h
 ·exact ky hm h
theorem As {l m:Nat} {p x:AV} {H:List aa} {K K':List aa→Prop} (hm:∀ H',K H'→K' H') (h:gQ l m p x H K):gQ l m p x H K':=by
 unfold gQ at *
 split at h <;> (try exact h.elim)
 split at h <;> (try exact h.elim)
 exact ⟨h.1,h.2.1,h.2.2.1,h.2.2.2.1,h.2.2.2.2.1,h.2.2.2.2.2.1,hm _ h.2.2.2.2.2.2⟩
theorem nZ {env1 cV:Env} {pass:Option Nat}:∀ {is:List IX} {j:Nat},(∀ i∈is,au cV i=au env1 i)→aH cV pass j is=aH env1 pass j is
 | [],_,_=>rfl
 | .t s::r,j,h=>by
   have h1:get cV s=get env1 s:=h (.t s) (by simp)
   simp only [aH,h1,nZ (fun i hi=>h i (aai _ hi))]
 | .c v::r,j,h=>by
   simp only [aH,nZ (fun i hi=>h i (aai _ hi))]
theorem gF {lo:Option IX} {env1 cV:Env} (h:∀ i∈lo.toList,au cV i=au env1 i):gS cV lo=gS env1 lo:=by
 cases lo with
 | none=>rfl
 | some i=>simp [gS,h i (by simp)]
theorem oL {P:Px} {o:bZ} {dst:Option Nat} {env1 cV:Env} {H:List aa} {K1 K2:Env→List aa→Prop} (hl:∀ i∈o.all,au cV i=au env1 i) (h:bp P o dst env1 H K1)
 (hK:∀ (mods:List (Nat×AV)) H',(∀ p∈mods,dst=some p.1∨p.1∈o.kill)→(o.RN=false→H'=H)→(o.yH=true→∃ e,H'=H++e)→K1 (mods++env1) H'→K2 (mods++cV) H'):bp P o dst cV H K2:=by
 have kput:∀ z H',(o.RN=false→H'=H)→(o.yH=true→∃ e,H'=H++e)→K1 (put dst z env1) H'→K2 (put dst z cV) H':=by
  intro z H' hc hg
  cases hd:dst with
  | none=>exact hK [] H' (by simp) hc hg
  | some d=>exact hK [(d,z)] H' (by simp [hd]) hc hg
 have kput0:∀ z,K1 (put dst z env1) H→K2 (put dst z cV) H:=fun z=>kput z H (fun _=>rfl) (fun _=>⟨[],by simp⟩)
 have kenv:∀ H',(o.RN=false→H'=H)→(o.yH=true→∃ e,H'=H++e)→K1 env1 H'→K2 cV H':=fun H' hc hg=>hK [] H' (by simp) hc hg
 cases o with
 | set i take=>
   simp only [bZ.all,aal,forall_eq] at hl
   simp only [bp] at h ⊢
   cases dst with
   | none=>exact kenv H (fun _=>rfl) (fun _=>⟨[],by simp⟩) h
   | some d=>
     simp only at h ⊢
     cases i with
     | c v=>cases take <;> exact kput0 _ h
     | t s=>
       have hs:get cV s=get env1 s:=hl
       cases take with
       | false=>
         have e1:uB env1 d (.t s) false=put (some d) (get env1 s).ae env1:=rfl
         have e2:uB cV d (.t s) false=put (some d) (get env1 s).ae cV:=by simp only [uB,put,au,hs]
         rw [e2];rw [e1] at h
         exact kput0 _ h
       | true=>
         have e1:uB env1 d (.t s) true=[(d,get env1 s),(s,(get env1 s).ae)]++env1:=rfl
         have e2:uB cV d (.t s) true=[(d,get env1 s),(s,(get env1 s).ae)]++cV:=by simp only [uB,hs];rfl
         rw [e2];rw [e1] at h
         exact hK _ H (by simp [bZ.kill]) (fun _=>rfl) (fun _=>⟨[],by simp⟩) h
 | pick c a b=>
   simp only [bZ.all,UQ,aaY,or_false,forall_eq_or_imp,forall_eq] at hl
   obtain ⟨h1,h2,h3⟩:=hl
   simp only [bp] at h ⊢
   rw [h1,h2,h3]
   obtain ⟨q,hq,h⟩:=oJ h
   rw [hq]
   exact ⟨fun e=>kput0 _ (h.1 e),fun e=>kput0 _ (h.2 e)⟩
 | bin op i j=>
   simp only [bZ.all,UQ,aaY,or_false,forall_eq_or_imp,forall_eq] at hl
   simp only [bp] at h ⊢
   rw [hl.1,hl.2]
   exact sC kput0 h
 | shift op i j=>
   simp only [bZ.all,UQ,aaY,or_false,forall_eq_or_imp,forall_eq] at hl
   simp only [bp] at h ⊢
   rw [hl.1,hl.2]
   exact nU kput0 h
 | iB neq i j=>
   simp only [bZ.all,UQ,aaY,or_false,forall_eq_or_imp,forall_eq] at hl
   simp only [bp] at h ⊢
   rw [hl.1,hl.2]
   exact mh kput0 h
 | indexAddr esz i j=>
   simp only [bZ.all,UQ,aaY,or_false,forall_eq_or_imp,forall_eq] at hl
   simp only [bp] at h ⊢
   rw [hl.1,hl.2]
   exact ⟨h.1,jm kput0 h.2⟩
 | dj i j=>
   simp only [bZ.all,UQ,aaY,or_false,forall_eq_or_imp,forall_eq] at hl
   simp only [bp] at h ⊢
   rw [hl.1,hl.2]
   exact jV kput0 h
 | dR n i j=>
   simp only [bZ.all,UQ,aaY,or_false,forall_eq_or_imp,forall_eq] at hl
   simp only [bp] at h ⊢
   rw [hl.1,hl.2]
   exact jW kput0 h
 | lookup kd z i j ok=>
   simp only [bZ.all,UQ,aaY,or_false,forall_eq_or_imp,forall_eq] at hl
   simp only [bp] at h ⊢
   rw [hl.1,hl.2]
   exact mi kput0 h
 | mx big i j=>
   simp only [bZ.all,UQ,aaY,or_false,forall_eq_or_imp,forall_eq] at hl
   simp only [bp] at h ⊢
   rw [hl.1,hl.2]
   exact wa kput0 h
 | store m i j=>
   simp only [bZ.all,UQ,aaY,or_false,forall_eq_or_imp,forall_eq] at hl
   simp only [bp] at h ⊢
   rw [hl.1,hl.2]
   exact Co (fun H' hk=>kenv H' (fun e=>by cases e) (fun e=>by cases e) hk) h
 | nI m i j=>
   simp only [bZ.all,UQ,aaY,or_false,forall_eq_or_imp,forall_eq] at hl
   simp only [bp] at h ⊢
   rw [hl.1,hl.2]
   split at h <;> (try exact h.elim)
   exact As (fun H' hk=>kenv H' (fun e=>by cases e) (fun e=>by cases e) hk) h
 | append esz bytes i j=>
   simp only [bZ.all,UQ,aaY,or_false,forall_eq_or_imp,forall_eq] at hl
   simp only [bp] at h ⊢
   rw [hl.1,hl.2]
   refine Ap (fun zs hk=>?_) h
   cases i with
   | c v=>exact kput0 _ hk
   | t s=>
     have hs:get cV s=get env1 s:=hl.1
     have e:∀ env:Env,get env s=get env1 s→put dst (.al esz zs) (cP env (IX.t s).slot)=(put dst (.al esz zs) [(s,(get env1 s).ae)])++env:=by
      intro env he
      cases dst <;> simp [put,cP,IX.slot,he]
     rw [e env1 rfl] at hk
     rw [e cV hs]
     refine hK _ H ?_ (fun _=>rfl) (fun _=>⟨[],by simp⟩) hk
     intro p hp
     cases dst with
     | none=>simp [put] at hp;subst hp;right;simp [bZ.kill]
     | some d=>
       simp [put] at hp
       rcases hp with rfl | rfl
       ·left;rfl
       ·right;simp [bZ.kill]
 | copy esz i j=>
   simp only [bZ.all,UQ,aaY,or_false,forall_eq_or_imp,forall_eq] at hl
   simp only [bp] at h ⊢
   rw [hl.1,hl.2]
   exact EV (fun v H' hk=>kput v H' (fun e=>by cases e) (fun e=>by cases e) hk) h
 | kL kd i j k=>
   simp only [bZ.all,UQ,aaY,or_false,forall_eq_or_imp,forall_eq] at hl
   simp only [bp] at h ⊢
   rw [hl.1,hl.2.1,hl.2.2]
   exact Ar (fun H' hk=>kenv H' (fun e=>by cases e) (fun e=>by cases e) hk) h
 | fy i s=>
   simp only [bZ.all,UQ,aaY,or_false,forall_eq_or_imp,forall_eq] at hl
   simp only [bp] at h ⊢
   have hs:get cV s=get env1 s:=hl.2
   rw [hl.1,hs]
   exact xU (fun H' hk=>hK [(s,(get env1 s).ae)] H' (by simp [bZ.kill]) (fun e=>by cases e) (fun e=>by cases e) hk) h
 | ju kd neq i=>
   simp only [bZ.all,aal,forall_eq] at hl
   simp only [bp] at h ⊢
   rw [hl]
   exact tV kput0 h
 | un op i=>
   simp only [bZ.all,aal,forall_eq] at hl
   simp only [bp] at h ⊢
   rw [hl]
   exact v9 kput0 h
 | box i=>
   simp only [bZ.all,aal,forall_eq] at hl
   simp only [bp] at h ⊢
   rw [hl]
   exact ⟨h.1,h.2.1,kput _ _ (fun e=>by cases e) (fun _=>⟨_,rfl⟩) h.2.2⟩
 | lY i=>
   simp only [bZ.all,aal,forall_eq] at hl
   simp only [bp] at h ⊢
   rw [hl]
   exact ⟨h.1,kput0 _ h.2⟩
 | sk m i=>
   simp only [bZ.all,aal,forall_eq] at hl
   simp only [bp] at h ⊢
   rw [hl]
   exact ⟨h.1,h.2.1,h.2.2.1,kput0 _ h.2.2.2⟩
 | alloc z=>
   simp only [bp] at h ⊢
   exact ⟨h.1,kput _ _ (fun e=>by cases e) (fun _=>⟨_,rfl⟩) h.2⟩
 | nK=>
   simp only [bp] at h ⊢
   exact kput _ _ (fun e=>by cases e) (fun _=>⟨_,rfl⟩) h
 | load sz i=>
   simp only [bZ.all,aal,forall_eq] at hl
   simp only [bp] at h ⊢
   rw [hl]
   exact jU kput0 h
 | tG sz esz i=>
   simp only [bZ.all,aal,forall_eq] at hl
   simp only [bp] at h ⊢
   rw [hl]
   exact jU (fun z hz=>wb (fun v H' hk=>kput v H' (fun e=>by cases e) (fun e=>by cases e) hk) hz) h
 | eH i=>
   simp only [bZ.all,aal,forall_eq] at hl
   simp only [bp] at h ⊢
   rw [hl]
   cases dst with
   | none=>exact h.elim
   | some d=>
     cases hv:au env1 i with
     | ptr id off=>
       rw [hv] at h
       simp only at h ⊢
       cases bm:H[id]? with
       | none=>rw [bm] at h;exact h.elim
       | some ob=>
         rw [bm] at h
         cases ob with
         | cells es=>exact ⟨h.1,hK [(d,es.getD off .any)] _ (by simp) (fun e=>by cases e) (fun e=>by cases e) h.2⟩
         | _=>exact h.elim
     | _=>rw [hv] at h;exact h.elim
 | zX esz i=>
   simp only [bZ.all,aal,forall_eq] at hl
   simp only [bp] at h ⊢
   rw [hl]
   exact wb (fun v H' hk=>kput v H' (fun e=>by cases e) (fun e=>by cases e) hk) h
 | nilCheck i=>
   simp only [bZ.all,aal,forall_eq] at hl
   simp only [bp] at h ⊢
   rw [hl]
   exact jX kput0 h
 | fieldAddr off sz i=>
   simp only [bZ.all,aal,forall_eq] at hl
   simp only [bp] at h ⊢
   rw [hl]
   exact jl kput0 h
 | field off sz i=>
   simp only [bZ.all,aal,forall_eq] at hl
   simp only [bp] at h ⊢
   rw [hl]
   exact nV kput0 h
 | len kd i=>
   simp only [bZ.all,aal,forall_eq] at hl
   simp only [bp] at h ⊢
   rw [hl]
   exact ⟨h.1,sD kput0 h.2⟩
 | tH esz bytes z i=>
   simp only [bZ.all,aal,forall_eq] at hl
   simp only [bp] at h ⊢
   rw [hl]
   exact Cp (fun v H' hk=>kput v H' (fun e=>by cases e) (fun e=>by cases e) hk) h
 | nJ esz bytes i=>
   simp only [bZ.all,aal,forall_eq] at hl
   simp only [bp] at h ⊢
   rw [hl]
   exact tX kput0 h
 | extract i k=>
   simp only [bZ.all,aal,forall_eq] at hl
   simp only [bp] at h ⊢
   rw [hl]
   exact kT kput0 h
 | eV k i=>
   simp only [bZ.all,aal,forall_eq] at hl
   simp only [bp] at h ⊢
   rw [hl]
   exact kU kput0 h
 | gO i=>
   simp only [bZ.all,aal,forall_eq] at hl
   simp only [bp] at h ⊢
   rw [hl]
   exact py kput0 h
 | bytesOf i=>
   simp only [bZ.all,aal,forall_eq] at hl
   simp only [bp] at h ⊢
   rw [hl]
   exact pA kput0 h
 | strOf i=>
   simp only [bZ.all,aal,forall_eq] at hl
   simp only [bp] at h ⊢
   rw [hl]
   exact tW kput0 h
 | build z ps=>
   simp only [bZ.all] at hl
   simp only [bp] at h ⊢
   have:(ps.map fun q=>(q.1,q.2.1,au cV q.2.2))=ps.map fun q=>(q.1,q.2.1,au env1 q.2.2):=
    acS fun q hq=>by rw [hl _ (aag.2 ⟨q,hq,rfl⟩)]
   rw [this]
   exact mn (fun v hk=>kput0 _ hk) h
 | BT esz z len ps=>
   simp only [bZ.all] at hl
   simp only [bp] at h ⊢
   have:(ps.map fun q=>(q.1,au cV q.2))=ps.map fun q=>(q.1,au env1 q.2):=
    acS fun q hq=>by rw [hl _ (aag.2 ⟨q,hq,rfl⟩)]
   rw [this]
   exact gU (fun v hk=>⟨hk.1,kput _ _ (fun e=>by cases e) (fun e=>by cases e) hk.2⟩) h
 | jy esz bytes z i j=>
   simp only [bZ.all,UQ,aaY,or_false,forall_eq_or_imp,forall_eq] at hl
   simp only [bp] at h ⊢
   rw [hl.1,hl.2]
   exact xV (fun v H' hk=>kput v H' (fun e=>by cases e) (fun e=>by cases e) hk) h
 | kr esz bytes z i j=>
   simp only [bZ.all,UQ,aaY,or_false,forall_eq_or_imp,forall_eq] at hl
   simp only [bp] at h ⊢
   rw [hl.1,hl.2]
   split at h <;> (try exact h.elim)
   exact xX (fun v H' hk=>kput v H' (fun e=>by cases e) (fun e=>by cases e) hk) h
 | nL esz z i=>
   simp only [bZ.all,aal,forall_eq] at hl
   simp only [bp] at h ⊢
   rw [hl]
   exact Aq (fun H' hk=>kput _ H' (fun e=>by cases e) (fun e=>by cases e) hk) h
 | buildSlice own esz z len ps=>
   simp only [bZ.all] at hl
   simp only [bp] at h ⊢
   have:(ps.map fun q=>(q.1,au cV q.2))=ps.map fun q=>(q.1,au env1 q.2):=
    acS fun q hq=>by rw [hl _ (aag.2 ⟨q,hq,rfl⟩)]
   rw [this]
   exact gU (fun v hk=>kput0 _ hk) h
 | slice esz i lo hi m=>
   simp only [bZ.all,UQ,abf,forall_eq_or_imp] at hl
   obtain ⟨h1,h2⟩:=hl
   simp only [bp] at h ⊢
   rw [h1,gF (fun i hi=>h2 i (.inl (.inl hi))),gF (fun i hi=>h2 i (.inl (.inr hi))),gF (fun i hi=>h2 i (.inr hi))]
   exact mj kput0 h
 | pL esz i lo hi m=>
   simp only [bZ.all,UQ,abf,forall_eq_or_imp] at hl
   obtain ⟨h1,h2⟩:=hl
   simp only [bp] at h ⊢
   rw [h1,gF (fun i hi=>h2 i (.inl (.inl hi))),gF (fun i hi=>h2 i (.inl (.inr hi))),gF (fun i hi=>h2 i (.inr hi))]
   exact ⟨h.1,tY (fun z hz=>⟨hz.1,kput0 _ hz.2⟩) h.2⟩
 | dS i lo hi=>
   simp only [bZ.all,UQ,abf,forall_eq_or_imp] at hl
   obtain ⟨h1,h2⟩:=hl
   simp only [bp] at h ⊢
   rw [h1,gF (fun i hi=>h2 i (.inl hi)),gF (fun i hi=>h2 i (.inr hi))]
   exact jY kput0 h
 | fn f first cap=>
   simp only [bZ.all,abf] at hl
   simp only [bp] at h ⊢
   rw [nX (fun i hi=>hl i (.inl hi)) AV.ae,nX (fun i hi=>hl i (.inr hi)) AV.ae]
   exact kput0 _ h
 | call f args pass=>
   simp only [bZ.all,UQ,forall_eq_or_imp] at hl
   obtain ⟨h1,h2⟩:=hl
   simp only [bp,pw] at h ⊢
   rw [h1]
   split at h <;> try exact h.elim
   all_goals
   obtain ⟨bR,hle,hcall⟩:=h
   refine ⟨bR,?_,hcall.mono fun r H' hk=>?_⟩
   ·rw [nZ h2];exact hle
   ·cases hp:bh args pass with
    | none=>
      rw [hp] at hk
      exact kput r H' (fun e=>by cases e) (fun e=>by cases e) hk
    | some s=>
      rw [hp] at hk
      have jg:IX.t s∈args∧s∈(bZ.call f args pass).kill:=by
       unfold bh at hp
       simp only [bZ.kill]
       split at hp
       ·rename_i j
        split at hp <;> cases hp
        rename_i hj
        try simp only [hj]
        exact ⟨aaX hj,by simp⟩
       ·cases hp
      have hs:get cV s=get env1 s:=h2 _ jg.1
      have e:∀ env:Env,get env s=get env1 s→put dst r (cP env (some s))=(put dst r [(s,(get env1 s).ae)])++env:=by
       intro env he
       cases dst <;> simp [put,cP,he]
      rw [e env1 rfl] at hk
      rw [e cV hs]
      refine hK _ H' ?_ (fun e=>by cases e) (fun e=>by cases e) hk
      intro p U0
      cases dst with
      | none=>simp [put] at U0;subst U0;exact .inr jg.2
      | some d=>
        simp [put] at U0
        rcases U0 with rfl | rfl
        ·left;rfl
        ·exact .inr jg.2
 | never=>exact h.elim
end Go.aJ
end
section
namespace Go.aJ
open Go
theorem cZ {env1 cV:Env} (h:get env1=get cV):∀ mods:List (Nat×AV),get (mods++env1)=get (mods++cV)
 | []=>h
 | (k,v)::r=>by
   funext t
   simp only [List.cons_append,get]
   split
   ·rfl
   ·rw [cZ h r]
theorem pB {env1 cV:Env} {t:Nat} (h:get env1 t=get cV t):∀ mods:List (Nat×AV),get (mods++env1) t=get (mods++cV) t
 | []=>h
 | (k,v)::r=>by
   simp only [List.cons_append,get]
   split
   ·rfl
   ·rw [pB h r]
theorem kV {env:Env} {t:Nat}:∀ {mods:List (Nat×AV)},(∀ p∈mods,p.1≠t)→get (mods++env) t=get env t
 | [],_=>rfl
 | (k,v)::r,h=>by
   simp only [List.cons_append,get]
   rw [if_neg (fun e=>h (k,v) (by simp) e.symm),kV (fun p hp=>h p (by simp [hp]))]
theorem H6 {l:List IX} {s:Nat} (h:IX.t s∈l):s∈IX.Qp l:=List.mem_filterMap.2 ⟨_,h,rfl⟩
theorem EW {o:bA} {env1 cV:Env} (hl:∀ s∈o.lk,get cV s=get env1 s):∀ i∈o.op.all,au cV i=au env1 i:=by
 intro i hi
 cases i with
 | c v=>rfl
 | t s=>exact hl s (List.mem_append_left _ (H6 hi))
theorem get_guard {env:Env} {g:Nat} {b:Bool} (h:get env g=.bool b):get ((g,AV.bool b)::env)=get env:=by
 funext t
 simp only [get]
 split
 ·rename_i e;rw [e,h]
 ·rfl
theorem oM {P:Px} {o:bA} {env1 cV:Env} {H:List aa} {K1 K2:Env→List aa→Prop} (hl:∀ s∈o.lk,get cV s=get env1 s) (h:sy P o env1 H K1)
 (hK:∀ e1 e2 H',(∃ mods:List (Nat×AV),(∀ p∈mods,o.dst=some p.1∨p.1∈o.op.kill)∧get e1=get (mods++env1)∧get e2=get (mods++cV))→(o.op.RN=false→H'=H)→(o.op.yH=true→∃ e,H'=H++e)→K1 e1 H'→K2 e2 H'):sy P o cV H K2:=by
 unfold sy at *
 cases hg:o.g with
 | none=>
   simp only [hg] at h ⊢
   exact oL (EW hl) h fun mods H' hm hc hg hk=>hK _ _ H' ⟨mods,hm,rfl,rfl⟩ hc hg hk
 | some p=>
   obtain ⟨g,want⟩:=p
   simp only [hg] at h ⊢
   unfold iE at *
   have yL:get cV g=get env1 g:=hl g (by simp [bA.lk,hg])
   rw [yL]
   split at h
   rotate_left
   ·rename_i hb
    refine hK _ _ H ⟨(match o.dst with | some d=>[(d,.tuple [])] | none=>[]),?_,?_,?_⟩ (fun _=>rfl) (fun _=>⟨[],by simp⟩) h
    ·cases hd:o.dst <;> simp
    ·cases hd:o.dst <;> rfl
    ·cases hd:o.dst <;> rfl
   ·exact h.elim
   rename_i b hb
   have pr:get cV g=.bool b:=by rw [yL,hb]
   refine ⟨fun e=>?_,fun e=>?_⟩
   ·subst e
    refine oL (env1:=(g,.bool b)::env1) (EW (o:=o) fun s hs=>?_) (h.1 rfl) fun mods H' hm hc hg hk=>hK _ _ H' ⟨mods,hm,cZ (get_guard hb) mods,cZ (get_guard pr) mods⟩ hc hg hk
    rw [get_guard hb,get_guard pr]
    exact hl s hs
   ·have h2:=h.2 e
    subst e
    refine hK _ _ H ⟨(match o.dst with | some d=>[(d,.tuple [])] | none=>[]),?_,?_,?_⟩ (fun _=>rfl) (fun _=>⟨[],by simp⟩) h2
    ·cases hd:o.dst <;> simp
    ·cases hd:o.dst with
     | none=>exact get_guard hb
     | some d=>exact cZ (get_guard hb) [(d,.tuple [])]
    ·cases hd:o.dst with
     | none=>exact get_guard pr
     | some d=>exact cZ (get_guard pr) [(d,.tuple [])]
theorem qL {P:Px} {o:bA} {env:Env} {H:List aa} {K1 K2:Env→List aa→Prop} (h:sy P o env H K1)
 (hK:∀ e1 e2 H',get e1=get e2→K1 e1 H'→K2 e2 H'):sy P o env H K2:=
 oM (fun _ _=>rfl) h fun e1 e2 H' ⟨mods,_,h1,h2⟩ _ _ hk=>hK e1 e2 H' (h1.trans h2.symm) hk
section
variable {P:Px} {ops:Array Oper} {il:List bA} {K:Env→List aa→Prop}
def qA (P:Px) (il:List bA) (i:Nat) (env:Env) (H:List aa) (K:Env→List aa→Prop):Prop:=
 match il[i]? with
 | none=>K env H
 | some o=>sy P o env H K
def wc (P:Px) (ops:Array Oper) (il:List bA) (K:Env→List aa→Prop):Nat→Array Bool→Env→List aa→Prop
 | 0,listed,env,H=>Region.ready .any ops listed=[]∧K env H
 | f + 1,listed,env,H=>(Region.ready .any ops listed=[]→K env H)∧∀ i∈Region.ready .any ops listed,qA P il i env H (wc P ops il K f (listed.setIfInBounds i true))
def Inv (K:Env→List aa→Prop):Prop:=∀ e1 e2 H,get e1=get e2→K e1 H→K e2 H
theorem iF (hK:Inv K):∀ (f:Nat) (listed:Array Bool) {e1 e2:Env} {H:List aa},get e1=get e2→wc P ops il K f listed e1 H→wc P ops il K f listed e2 H
 | 0,_,_,_,_,he,h=>⟨h.1,hK _ _ _ he h.2⟩
 | f + 1,listed,e1,e2,H,he,h=>by
   refine ⟨fun h0=>hK _ _ _ he (h.1 h0),fun i hi=>?_⟩
   have hq:=h.2 i hi
   unfold qA at *
   split
   ·rename_i hn;simp only [hn] at hq;exact iF hK f _ he hq
   ·rename_i o ho
    simp only [ho] at hq
    exact oM (fun s _=>by rw [he]) hq fun a b H' ⟨mods,_,h1,h2⟩ _ _ hk=>iF hK f _ (by rw [h1,h2,cZ he]) hk
def VL (P:Px) (st:Bool) (o:bA) (env:Env) (H:List aa) (x:AV):Prop:=
 ∃ ρ:IX→AV,(∀ i∈o.op.all,au env i=ρ i)∧match o.g with
  | none=>dv P st o.op ρ H x
  | some (g,want)=>(∃ b,get env g=.bool b∧(b=want→dv P st o.op ρ H x)∧(b≠want→x=.tuple []))∨(get env g=.tuple []∧x=.tuple [])
theorem Gz {st:Bool} {o:bZ} {ρ:IX→AV} {H:List aa} {x:AV} (h:dv P st o ρ H x):de P o ρ H x:=by
 cases st
 ·exact h H
 ·exact h
theorem we {H e:List aa} {id:Nat} {o:aa} (h:H[id]?=some o):(H++e)[id]?=some o:=by
 rw [yp (aaw.1 h).1,h]
theorem EX {sz:Option Nat} {x:AV} {H e:List aa} {φ:AV→Prop} (h:aV sz x H φ):aV sz x (H++e) φ:=by
 unfold aV at *
 split at h
 ·split at h
  ·rename_i bm;rw [we bm];exact h
  ·exact h.elim
 ·exact h
 ·exact h.elim
theorem H7 {x:AV} {H e:List aa} {φ:AV→Prop} (h:fz x H φ):fz x (H++e) φ:=by
 unfold fz at *
 split at h <;> (try exact h)
 split at h
 ·rename_i bm;rw [we bm];exact h
 ·exact h.elim
theorem At {kd:Nat} {z m k:AV} {ok:Bool} {H e:List aa} {φ:AV→Prop} (h:ct kd z m k ok H φ):ct kd z m k ok (H++e) φ:=by
 unfold ct at *
 split at h <;> (try exact h)
 split at h
 ·rename_i bm;rw [we bm];exact h
 ·exact h.elim
theorem yM {o:bZ} {ρ:IX→AV} {H e:List aa} {x:AV} (hs:o.stays=true) (h:de P o ρ H x):de P o ρ (H++e) x:=by
 cases o with
 | call f args pass=>cases hs
 | load sz i=>
   unfold de at h ⊢
   exact EX h
 | len kd i=>
   unfold de at h ⊢
   exact ⟨h.1,H7 h.2⟩
 | lookup kd z m k ok=>
   unfold de at h ⊢
   exact At h
 | set i t=>cases t <;> exact h
 | _=>exact h
theorem Cq {st:Bool} {o:bZ} {ρ:IX→AV} {H H':List aa} {x:AV} (hH:st=true→H'=H∨(o.stays=true∧∃ e,H'=H++e)) (h:dv P st o ρ H x):dv P st o ρ H' x:=by
 cases st
 ·exact h
 ·rcases hH rfl with e | ⟨h1,e,he⟩
  ·rw [e];exact h
  ·rw [he];exact yM h1 h
theorem H8 {st:Bool} {o:bA} {env1 cV:Env} {H1 H2:List aa} {x:AV} (hl:∀ s∈o.lk,get cV s=get env1 s) (hH:st=true→H2=H1∨(o.op.stays=true∧∃ e,H2=H1++e)) (h:VL P st o env1 H1 x):VL P st o cV H2 x:=by
 obtain ⟨ρ,h1,h2⟩:=h
 refine ⟨ρ,fun i hi=>(EW hl i hi).trans (h1 i hi),?_⟩
 cases hg:o.g with
 | none=>simp only [hg] at h2 ⊢;exact Cq hH h2
 | some p=>
   obtain ⟨g,want⟩:=p
   simp only [hg] at h2 ⊢
   rcases h2 with ⟨b,k1,k2,k3⟩ | ⟨k1,k2⟩
   ·exact .inl ⟨b,(hl g (by simp [bA.lk,hg])).trans k1,fun e=>Cq hH (k2 e),k3⟩
   ·exact .inr ⟨(hl g (by simp [bA.lk,hg])).trans k1,k2⟩
theorem GA {st:Bool} {o:bA} {env:Env} {H:List aa} {x:AV} (h:VL P st o env H x):sy P o env H fun e H'=>H'=H∧get e=get (put o.dst x env):=by
 obtain ⟨ρ,h1,h2⟩:=h
 unfold sy
 cases hg:o.g with
 | none=>simp only [hg] at h2 ⊢;exact Cm (Gz h2) h1
 | some p=>
   obtain ⟨g,want⟩:=p
   simp only [hg] at h2 ⊢
   rcases h2 with ⟨b,k1,k2,k3⟩ | ⟨k1,k2⟩
   rotate_left
   ·unfold iE
    rw [k1]
    subst k2
    exact ⟨by simp,rfl⟩
   unfold iE
   rw [k1]
   refine ⟨fun e=>?_,fun e=>?_⟩
   ·subst e
    have MM:=get_guard k1
    have:=Cm (dst:=o.dst) (env:=(g,.bool b)::env) (Gz (k2 rfl)) (fun i hi=>by
     rw [← h1 i hi]
     cases i with
     | c v=>rfl
     | t s=>show get _ s=get _ s;rw [MM])
    refine oL (fun _ _=>rfl) this ?_
    intro mods H' _ _ _ hk
    refine ⟨hk.1,hk.2.trans ?_⟩
    rw [kx,kx,MM]
   ·have eU:b≠want:=by intro e2;subst e2;cases b <;> cases e
    have hx:=k3 eU
    subst hx
    subst e
    exact ⟨by simp,by rw [kx,kx,get_guard k1]⟩
def closed (ops:Array Oper) (listed:Array Bool):Prop:=∀ k o,ops[k]?=some o→listed.getD k false=true→∀ e∈o.after,Region.binds .any e=true→listed.getD e.on false=true
theorem lC {listed:Array Bool} (hc:closed ops listed) {i:Nat}:∀ (f j:Nat) (oj:Oper),ops[j]?=some oj→(∀ e∈oj.after,Region.binds .any e=true→listed.getD e.on false=true)→dt ops f j i=true→listed.getD i false=true
 | 0,_,_,_,_,h=>by simp [dt] at h
 | f + 1,j,oj,hj,iQ,h=>by
   simp only [dt,hj] at h
   obtain ⟨k,hk,he⟩:=Array.any_eq_true.1 h
   simp only [yu,ab0,beq_iff_eq] at he
   have jg:oj.after[k]∈oj.after:=Array.getElem_mem hk
   have hl:=iQ _ jg he.1
   rcases he.2 with e | e
   ·rw [← e];exact hl
   ·have hso:∃ o',ops[(oj.after[k]).on]?=some o':=by
     cases f with
     | zero=>simp [dt] at e
     | succ f=>
       cases ho:ops[(oj.after[k]).on]? with
       | none=>simp [dt,ho] at e
       | some o'=>exact ⟨o',rfl⟩
    obtain ⟨o',VM⟩:=hso
    exact lC hc f _ o' VM (hc _ _ VM hl) e
theorem pR {listed:Array Bool} {i:Nat} (h:listed.getD i true=false):listed.getD i false=false:=by
 simp only [abe] at *
 cases hx:listed[i]? with
 | none=>rfl
 | some b=>rw [hx] at h;simpa using h
theorem pS {listed:Array Bool} (hc:closed ops listed) {j:Nat} (hj:j∈Region.ready .any ops listed):closed ops (listed.setIfInBounds j true):=by
 obtain ⟨_,oj,RP,iQ⟩:=mem_ready.1 hj
 intro k o ho hk e he hb
 refine getD_set_true ?_
 by_cases hkj:k=j
 ·subst hkj
  rw [RP] at ho
  cases ho
  exact iQ e he hb
 ·rw [getD_set_ne false (Ne.symm hkj)] at hk
  exact hc k o ho hk e he hb
theorem Cr {listed:Array Bool} {i j:Nat} {st:Bool} (h:nT ops il listed i st=true) (hj:j < ops.size) (MO:j≠i) (Zs:listed.getD j true=false) (jO:dt ops ops.size j i=false):sA st (il.getD i default) (il.getD j default)=true:=by
 unfold nT at h
 have:=aaL.1 h j (abq.2 hj)
 simp only [ab0,beq_iff_eq,Zs,jO,abv,or_false] at this
 rcases this with e | e
 ·exact absurd e MO
 ·exact e
theorem Cs {listed:Array Bool} {i j:Nat} {st:Bool} (h:nT ops il listed i st=true):nT ops il (listed.setIfInBounds j true) i st=true:=by
 unfold nT at *
 refine aaL.2 fun k hk=>?_
 have:=aaL.1 h k hk
 simp only [ab0] at this ⊢
 rcases this with ((e | e) | e) | e
 ·exact .inl (.inl (.inl e))
 ·refine .inl (.inl (.inr ?_))
  by_cases Qo:j=k
  ·subst Qo
   simp only [abe,adf]
   split
   ·split <;> simp
   ·rename_i eU;exact absurd trivial eU
  ·rw [getD_set_ne true Qo];exact e
 ·exact .inl (.inr e)
 ·exact .inr e
theorem Ct {st:Bool} {oi oj:bA} (h:sA st oi oj=true) :
 (∀ d,oi.dst=some d→d∉oj.lk∧oj.dst≠some d∧d∉oj.op.kill)∧(∀ d,oj.dst=some d→d∉oi.lk)∧(∀ s∈oj.op.kill,s∉oi.lk)∧(st=true→oj.op.RN=false∨(oj.op.yH=true∧oi.op.stays=true)):=by
 unfold sA at h
 simp only [yu,ab0,abr] at h
 obtain ⟨⟨⟨h1,h2⟩,h3⟩,h4⟩:=h
 refine ⟨fun d hd=>?_,fun d hd=>?_,fun s hs=>?_,fun e=>?_⟩
 ·rw [hd] at h1
  simpa [and_assoc] using h1
 ·rw [hd] at h2
  simpa using h2
 ·have:=aaL.1 h3 s hs
  simpa using this
 ·rcases h4 with (e2 | e2) | e2
  ·rw [e] at e2;cases e2
  ·exact .inl e2
  ·exact .inr e2
theorem qM {l:List bA} {i:Nat} {o:bA} (h:l[i]?=some o):l.getD i default=o:=by
 rw [sc,h];rfl
theorem H9 (hK:Inv K) (db:il.length=ops.size) {i:Nat} {oi:bA} {x:AV} {st:Bool} (hi:il[i]?=some oi):∀ (f:Nat) (listed:Array Bool) {env:Env} {H:List aa},closed ops listed→nT ops il listed i st=true→i∈Region.ready .any ops listed→
 VL P st oi env H x→wc P ops il K f (listed.setIfInBounds i true) (put oi.dst x env) H→wc P ops il K (f + 1) listed env H:=by
 intro f
 induction f with
 | zero=>
   intro listed env H je Ek hr ht hD
   refine ⟨fun h=>(by rw [h] at hr;cases hr),fun j hj=>?_⟩
   by_cases MO:j=i
   ·subst MO
    unfold qA
    simp only [hi]
    exact qL (GA ht) fun e1 e2 H' he ⟨h1,h2⟩=>by
     subst h1
     exact iF hK 0 _ (h2.symm.trans he) hD
   ·have:=ready_mono hj MO
    rw [hD.1] at this
    cases this
 | succ f ih=>
   intro listed env H je Ek hr ht hD
   refine ⟨fun h=>(by rw [h] at hr;cases hr),fun j hj=>?_⟩
   by_cases MO:j=i
   ·subst MO
    unfold qA
    simp only [hi]
    exact qL (GA ht) fun e1 e2 H' he ⟨h1,h2⟩=>by
     subst h1
     exact iF hK (f + 1) _ (h2.symm.trans he) hD
   ·have h1:=hD.2 j (ready_mono hj MO)
    obtain ⟨aaj,oj',VN,iQ⟩:=mem_ready.1 hj
    have hjs:j < ops.size:=(abZ.1 VN).1
    have jO:dt ops ops.size j i=false:=by
     cases hma:dt ops ops.size j i with
     | false=>rfl
     | true=>
       have:=lC je _ j oj' VN iQ hma
       rw [pR (mem_ready.1 hr).1] at this
       cases this
    have VO:=Cr Ek hjs MO aaj jO
    rw [qM hi] at VO
    unfold qA at *
    cases RP:il[j]? with
    | none=>
      rw [List.getElem?_eq_none_iff] at RP
      omega
    | some oj=>
      rw [qM RP] at VO
      obtain ⟨a1,a2,a3,a4⟩:=Ct VO
      simp only [RP] at h1 ⊢
      refine oM (env1:=put oi.dst x env) (fun s hs=>?_) h1 fun e1 e2 H' ⟨mods,hm,g1,g2⟩ hch hgr hk=>?_
      ·rw [kx]
       cases hd:oi.dst with
       | none=>rfl
       | some d=>
         simp only [RU,fF]
         rw [if_neg]
         intro e
         exact (a1 d hd).1 (e ▸ hs)
      ·have Jv:∀ s∈oi.lk,∀ p∈mods,p.1≠s:=by
        intro s hs p hp e
        rcases hm p hp with h | h
        ·exact a2 _ h (e ▸ hs)
        ·exact a3 _ h (e ▸ hs)
       have hmd:∀ d,oi.dst=some d→∀ p∈mods,p.1≠d:=by
        intro d hd p hp e
        rcases hm p hp with h | h
        ·exact (a1 d hd).2.1 (e ▸ h)
        ·exact (a1 d hd).2.2 (e ▸ h)
       refine ih (listed.setIfInBounds j true) (pS je hj) (Cs Ek) (ready_mono hr (Ne.symm MO)) ?_ ?_
       ·refine H8 (fun s hs=>?_) (fun e=>(a4 e).imp hch fun ⟨q1,q2⟩=>⟨q2,hgr q1⟩) ht
        rw [g2]
        exact kV (Jv s hs)
       ·rw [Array.setIfInBounds_comm _ _ MO]
        refine iF hK f _ ?_ hk
        rw [g1,kx,g2]
        cases hd:oi.dst with
        | none=>rfl
        | some d=>
          funext t
          simp only [RU,fF,put]
          by_cases htd:t=d
          ·subst htd
           rw [if_pos rfl,kV (hmd t hd)]
           simp [get]
          ·rw [if_neg htd]
           refine pB ?_ mods
           simp [get,htd]
theorem Nu (hK:Inv K) (db:il.length=ops.size):∀ (p:xF) (f:Nat) (listed:Array Bool) {env:Env} {H:List aa},closed ops listed→
 (uJ ops il f listed none p=true→uS P (inst il p) env H K→wc P ops il K f listed env H)∧
 (∀ ks,(∀ i∈ks,i∈Region.ready .any ops listed)→uJ ops il (f + 1) listed (some ks) p=true→uS P (inst il p) env H K→∀ i∈ks,qA P il i env H (wc P ops il K f (listed.setIfInBounds i true))):=by
 intro p
 induction p with
 | done=>
   intro f listed env H je
   refine ⟨fun h hd=>?_,fun ks _ h _ i hi=>?_⟩
   ·have:Region.ready .any ops listed=[]:=by
     cases f <;> simpa [uJ,List.isEmpty_iff] using h
    simp only [inst,uS] at hd
    cases f with
    | zero=>exact ⟨this,hd⟩
    | succ f=>exact ⟨fun _=>hd,fun i hi=>by rw [this] at hi;cases hi⟩
   ·cases ks with
    | nil=>cases hi
    | cons k ks=>simp [uJ] at h
 | nil=>
   intro f listed env H je
   refine ⟨fun h _=>by cases f <;> simp [uJ] at h,fun ks _ h _ i hi=>?_⟩
   cases ks with
   | nil=>cases hi
   | cons k ks=>simp [uJ] at h
 | take k st r ih=>
   intro f listed env H je
   refine ⟨fun h hd=>?_,fun ks _ h _ i hi=>?_⟩
   ·cases f with
    | zero=>simp [uJ] at h
    | succ f=>
      simp only [uJ,yu,List.contains_iff_mem] at h
      obtain ⟨⟨⟨hr,ae3⟩,Ek⟩,hp⟩:=h
      obtain ⟨_,ok,jv,_⟩:=mem_ready.1 hr
      have EI:k < il.length:=by rw [db];exact (abZ.1 jv).1
      have Nh:il[k]?=some (il.getD k default):=by rw [sc,aap EI];rfl
      simp only [inst,uS,tT] at hd
      have fin:∀ x,VL P st (il.getD k default) env H x→uS P (inst il r) (put (il.getD k default).dst x env) H K→wc P ops il K (f + 1) listed env H:=by
       intro x hx hrest
       exact H9 hK db Nh f listed je Ek hr hx ((ih f _ (pS je hr)).1 hp hrest)
      cases hg:(il.getD k default).g with
      | none=>
        simp only [hg] at hd
        obtain ⟨x,hx,hrest⟩:=hd
        exact fin x ⟨au env,fun _ _=>rfl,by simp only [hg];exact hx⟩ hrest
      | some gw=>
        obtain ⟨g,want⟩:=gw
        simp only [hg,iE] at hd
        split at hd
        rotate_left
        ·rename_i hb
         exact fin (.tuple []) ⟨au env,fun _ _=>rfl,by simp only [hg];exact .inr ⟨hb,by trivial⟩⟩ hd
        ·exact hd.elim
        rename_i b hb
        by_cases Gy:b=want
        ·obtain ⟨x,hx,hrest⟩:=hd.1 Gy
         exact fin x ⟨au env,fun _ _=>rfl,by simp only [hg];exact .inl ⟨b,hb,fun _=>hx,fun e=>absurd Gy e⟩⟩ hrest
        ·have hrest:=hd.2 (by cases b <;> cases want <;> first | rfl | exact absurd rfl Gy)
         exact fin (.tuple []) ⟨au env,fun _ _=>rfl,by simp only [hg];exact .inl ⟨b,hb,fun e=>absurd e Gy,fun _=>by trivial⟩⟩ hrest
   ·cases ks with
    | nil=>cases hi
    | cons k ks=>simp [uJ] at h
 | br k t rest J3 Gx=>
   intro f listed env H je
   have key:∀ (f:Nat) (ks:List Nat),(∀ i∈k::ks,i∈Region.ready .any ops listed)→uJ ops il f (listed.setIfInBounds k true) none t=true→uJ ops il (f + 1) listed (some ks) rest=true→uS P (inst il (.br k t rest)) env H K→
    ∀ i∈k::ks,qA P il i env H (wc P ops il K f (listed.setIfInBounds i true)):=by
    intro f ks EI h1 h2 hd i hi
    simp only [inst,uS] at hd
    rcases UQ.1 hi with rfl | hi
    ·have hr:=EI i (by simp)
     obtain ⟨_,ok,jv,_⟩:=mem_ready.1 hr
     have aS:i < il.length:=by rw [db];exact (abZ.1 jv).1
     have Nh:il[i]?=some (il.getD i default):=by rw [sc,aap aS];rfl
     unfold qA
     rw [Nh]
     exact qL hd.1 fun e1 e2 H' he hk=>iF hK f _ he ((J3 f _ (pS je hr)).1 h1 hk)
    ·exact (Gx f listed je).2 ks (fun j hj=>EI j (by simp [hj])) h2 hd.2 i hi
   refine ⟨fun h hd=>?_,fun ks EI h hd i hi=>?_⟩
   ·cases f with
    | zero=>simp [uJ] at h
    | succ f=>
      simp only [uJ] at h
      split at h
      ·rename_i k' ks Zt
       simp only [yu,beq_iff_eq] at h
       obtain ⟨⟨rfl,h1⟩,h2⟩:=h
       have:=key f ks (fun i hi=>by rw [Zt];exact hi) h1 h2 hd
       exact ⟨(fun e=>by rw [e] at Zt;cases Zt),fun i hi=>this i (by rw [Zt] at hi;exact hi)⟩
      ·cases h
   ·cases ks with
    | nil=>cases hi
    | cons k' ks=>
      simp only [uJ,yu,beq_iff_eq] at h
      obtain ⟨⟨rfl,h1⟩,h2⟩:=h
      exact key f ks EI h1 h2 hd i hi
end
end Go.aJ
end
section
namespace Go.aJ
open Go
section
variable {ro:Option Nat} {P:Program} {lo:Option Nat} {A:Perm} {n:Nat}
theorem n7 {ops:Array Oper} {an:BQ} {rid:Nat}:∀ (fuel k:Nat) (l:List Oper) (il:List bA),eW P ops an n rid false fuel k l=some il→
 il.length=l.length∧∀ (j:Nat) (o:Oper),l[j]?=some o→∃ g,Gv ops o=some g∧Gu n o=true∧il[j]?=some ⟨g,o.dst,Cf P o (an.at_ rid (k + j))⟩
 | _,_,[],il,hc=>by
   unfold eW at hc
   cases hc
   exact ⟨rfl,fun j o h=>by simp at h⟩
 | 0,_,o::r,il,hc=>by simp [eW] at hc
 | fuel + 1,k,o::r,il,hc=>by
   unfold eW at hc
   simp only [abv,and_false,if_false] at hc
   split at hc <;> try cases hc
   rename_i g xs hg ew
   split at hc <;> cases hc
   rename_i gA
   obtain ⟨h1,h2⟩:=n7 fuel (k + 1) r xs ew
   refine ⟨by simp [h1],fun j o' hj=>?_⟩
   cases j with
   | zero=>
     simp at hj
     subst hj
     exact ⟨g,hg,gA,by simp⟩
   | succ j=>
     simp at hj
     obtain ⟨g',e1,e2,e3⟩:=h2 j o' hj
     exact ⟨g',e1,e2,by simp [e3,ac8,adS 1 j]⟩
theorem ua {ops:Array Oper} {il:List bA} {an:BQ} {rid:Nat} {L0:List Nat} {M0:Mem} {w0:World} {K:Env→List aa→Prop} {Q:Exit→Act→World→Prop}
 (hp:∀ l,lo=some l→∀ id,l≤id→A.top id=none) (hc:eW P ops an n rid false (ops.size + 1) 0 ops.toList=some il)
 (hF:∀ (M:Mem) (L:List Nat) (w:World) (H:List aa) (env:Env) (O:Pos→Option Nat) (a:Act),K env H→Fr A n M L w H env O a→Ext A M0 w0 M w→L0 <+: L→Q .normal a w) :
 ∀ (f:Nat) (listed:Array Bool) {M:Mem} {L:List Nat} {w:World} {H:List aa} {env:Env} {O:Pos→Option Nat} {a:Act},Fr A n M L w H env O a→Ext A M0 w0 M w→L0 <+: L→wc ⟨P,lo⟩ ops il K f listed env H→wpAnyIn (wf ro) 0 P .any ops Q f listed a w
 | 0,_,_,_,_,_,_,_,_,hf,cD,hL,h=>⟨h.1,hF _ _ _ _ _ _ _ h.2 hf cD hL⟩
 | f + 1,listed,M,L,w,H,env,O,a,hf,cD,hL,h=>by
   refine ⟨fun h0=>hF _ _ _ _ _ _ _ (h.1 h0) hf cD hL,fun i hi=>?_⟩
   have hq:=h.2 i hi
   unfold wpOpIn
   cases ho:ops[i]? with
   | none=>
     obtain ⟨_,o,VM,_⟩:=mem_ready.1 hi
     rw [ho] at VM;cases VM
   | some o=>
     obtain ⟨g,hg,gA,BJ⟩:=(n7 _ _ _ _ hc).2 i o (by simpa using ho)
     unfold qA at hq
     rw [BJ] at hq
     have hs:=yJ (ro:=ro) (ops:=ops) hg gA hp hf hq Q
     have hrest:∀ a' w',nr A n M L w (wc ⟨P,lo⟩ ops il K f (listed.setIfInBounds i true)) a' w'→wpAnyIn (wf ro) 0 P .any ops Q f (listed.setIfInBounds i true) a' w':=by
      rintro a' w' ⟨M',L',H',aF,O',k1,k2,k3,k4⟩
      exact ua hp hc hF f _ k2 (cD.trans k3) (hL.trans k4) k1
     simp only
     split
     ·rename_i hw
      rw [if_pos hw] at hs
      exact Oper.wpIn_mono hrest hs
     ·rename_i hw
      rw [if_neg hw] at hs
      exact ⟨fun _ _=>trivial,hrest _ _ hs⟩
theorem Ia (L0:List Nat) (hp:∀ l,lo=some l→∀ id,l≤id→A.top id=none):yK P ro lo A n L0:=by
 intro id ops il p live an M L w H env O a M0 w0 Q hm hB hc h hf cD hL
 simp only [m9] at h
 have hK:Inv (fun (aF:Env) (H':List aa)=>∃ e,get e=get aF∧Q .normal (eJ live e) H'):=fun e1 e2 H he ⟨e,h1,h2⟩=>⟨e,h1.trans he,h2⟩
 have db:il.length=ops.size:=by simpa using (n7 _ _ _ _ hc).1
 have hB:=J2 db p _ _ _ _ (HY _) (by simp) hB
 have je:closed ops (Array.replicate ops.size false):=by
  intro k o _ hk
  simp only [abe,adT] at hk
  split at hk <;> cases hk
 have hd:uS ⟨P,lo⟩ (inst il p) env H (fun (aF:Env) (H':List aa)=>∃ e,get e=get aF∧Q .normal (eJ live e) H'):=by
  have mono:∀ (t:DT) (env:Env) (H:List aa) (K1 K2:Env→List aa→Prop),(∀ e H,K1 e H→K2 e H)→Inv K2→uS ⟨P,lo⟩ t env H K1→uS ⟨P,lo⟩ t env H K2:=by
   intro t
   induction t with
   | done=>intro env H K1 K2 hk _ h;exact hk _ _ h
   | nil=>intro _ _ _ _ _ _ _;trivial
   | take st o r ih=>
     intro env H K1 K2 hk hi h
     simp only [uS,tT] at h ⊢
     cases hg:o.g with
     | none=>
       simp only [hg] at h ⊢
       obtain ⟨x,hx,h⟩:=h
       exact ⟨x,hx,ih _ _ _ _ hk hi h⟩
     | some gw=>
       obtain ⟨g,want⟩:=gw
       simp only [hg,iE] at h ⊢
       split at h
       rotate_left
       ·exact ih _ _ _ _ hk hi h
       ·exact h.elim
       exact ⟨fun e=>let ⟨x,hx,h⟩:=h.1 e;⟨x,hx,ih _ _ _ _ hk hi h⟩,fun e=>ih _ _ _ _ hk hi (h.2 e)⟩
   | br o t rest J3 Gx=>
     intro env H K1 K2 hk hi h
     have hinv:∀ K:Env→List aa→Prop,Inv K→∀ t,Inv fun env H=>uS ⟨P,lo⟩ t env H K:=by
      intro K hK t
      induction t with
      | done=>exact hK
      | nil=>intro _ _ _ _ _;trivial
      | take st o r ih=>
        intro e1 e2 H he h
        simp only [uS,tT] at h ⊢
        have hav:au e2=au e1:=by
         funext i
         cases i with
         | c v=>rfl
         | t s=>show get e2 s=get e1 s;rw [he]
        have nP:∀ x,get (put o.dst x e1)=get (put o.dst x e2):=fun x=>by rw [kx,kx,he]
        cases hg:o.g with
        | none=>
          simp only [hg] at h ⊢
          obtain ⟨x,hx,h⟩:=h
          exact ⟨x,by rw [hav];exact hx,ih _ _ _ (nP x) h⟩
        | some gw=>
          obtain ⟨g,want⟩:=gw
          simp only [hg,iE] at h ⊢
          rw [← he]
          split at h
          rotate_left
          ·exact ih _ _ _ (nP _) h
          ·exact h.elim
          exact ⟨fun e=>let ⟨x,hx,h⟩:=h.1 e;⟨x,by rw [hav];exact hx,ih _ _ _ (nP x) h⟩,fun e=>ih _ _ _ (nP _) (h.2 e)⟩
      | br o t rest J3 Gx=>
        intro e1 e2 H he h
        exact ⟨oM (fun s _=>by rw [he]) h.1 fun a b H' ⟨mods,_,g1,g2⟩ _ _ hk=>J3 _ _ _ (by rw [g1,g2,cZ he]) hk,Gx _ _ _ he h.2⟩
     exact ⟨qL h.1 fun e1 e2 H' he Jw=>hinv K2 hi t _ _ _ he (J3 _ _ _ _ hk hi Jw),Gx _ _ _ _ hk hi h.2⟩
  exact mono _ _ _ _ _ (fun e H hq=>⟨e,rfl,hq⟩) hK h
 have hA:=(Nu (P:=⟨P,lo⟩) hK db p ops.size (Array.replicate ops.size false) (env:=env) (H:=H) je).1 hB hd
 refine wpIn_region_any hm (ua (M0:=M0) (w0:=w0) (L0:=L0) hp hc ?_ ops.size _ (M:=M) (L:=L) (H:=H) (env:=env) (O:=O) ⟨hf.st.drew,hf.size,hf.defers.ext (Ext.drew (M:=M))⟩ (cD.trans Ext.drew) hL hA)
 rintro M' L' w' H' aF O' a' ⟨e,he,hq⟩ h2 h3 h4
 obtain ⟨O'',h5⟩:=(h2.ER he).weaken (yI live e)
 exact ⟨A,M',L',H',_,O'',.refl A,hq,h5,h3,h4⟩
theorem EY {L0:List Nat} {an:BQ} {lv:mW} {pl:mX} (c:Code) (ir:IR) (hc:comp P an lv pl n c=some ir) {M:Mem} {L:List Nat} {w:World} {H:List aa} {env:Env} {O:Pos→Option Nat} {a:Act} {Q:Exit→Env→List aa→Prop}
 (hA:fT lo L0.length A) (xD:Own ro w) (h:m9 ⟨P,lo⟩ L0.length ir env H Q) (hf:Fr A n M L w H env O a) (hL:L0 <+: L):c.wpIn (wf ro) 0 P (EQ A n M L0 w Q) a w:=
 sound (fun A hA=>Ia L0 hA.opens) c ir hc hA xD h hf hL
end
end Go.aJ
end
