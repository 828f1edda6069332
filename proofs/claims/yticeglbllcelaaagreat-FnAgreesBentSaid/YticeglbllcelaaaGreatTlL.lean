import Derived.Test.YticeglbllcelaaaGreatTlK
set_option linter.unusedVariables false
namespace Go.TL
theorem Inv.drew{cx w Z ω}(h:Inv cx w Z ω):Inv cx w.drew Z ω:=
  { os:=h.os,tape:=h.tape,output:=h.output,size:=h.size,keep:=h.keep,zsub:=h.zsub,zold:=h.zold,wold:=h.wold,disj:=h.disj,inj:=h.inj,lt:=h.lt,zlt:=h.zlt }
theorem Inv.setRow{cx w Z ω}(h:Inv cx w Z ω){b:Nat}{p:Zu}(hb:ω b=some p)(cs:Array Value):Inv cx (w.setRow b cs) Z ω:=by
  have hsz:(w.setRow b cs).heap.size=w.heap.size:=by simp[World.setRow]
  exact { h with
    size:=by rw[hsz];exact h.size
    keep:=fun b' hb' h0=>by
      rw[setRow_other w b b' cs (fun e=>by subst e;exact h.wold _ _ hb hb' h0)]
      exact h.keep b' hb' h0
    lt:=fun b' p' hb'=>by rw[hsz];exact h.lt _ _ hb'
    zlt:=fun b' hb'=>by rw[hsz];exact h.zlt _ hb' }
theorem Rel.putSlice{cx st a w Z ω}(h:Rel cx st a w Z ω){d:Nat}(hd:st.okD d){w':World}{ω':Own}(inv:Inv cx w' Z ω')(hz:∀b,Z b→w'.heap[b]? =w.heap[b]?)
    (ho:∀r,r≠zn.slot d→∀b x,ω b=some (r.path++x)→ω' b=some (r.path++x)∧w'.heap[b]? =w.heap[b]?)
    {B cap sz:Nat} {cur:Array Value} {T:TypeId} {es:List (List CV)} {us:Nat→Nat→Value} (hB:ω' B=some [0,d,0]) (hh:w'.heap[B]? =some (.cells cur T (0,0))) (hcap:es.length≤cap) (hm:cap≤maxLen)
    (hcs:cur.size=cap*sz) (hsz:∀e∈es,e.length=sz) (hc:∀i j c,elC es i j=some c→cur[i*sz+j]? =some (us i j)) (hr:∀i j c,elC es i j=some c→Qg w' Z ω' [0,d,0,i,j] (us i j) c):
    Rel cx (st.put d (.val false [.sl true sz es])) (a.put (some d) (.slice (some ⟨B,0,none⟩) es.length cap)) w' Z ω':=by
  refine h.put hd inv (fun b hb=>⟨hb,hz b hb⟩) ho ⟨rfl,rfl,fun j c u hc' hu=>?_⟩
  cases j with
  |succ j=>simp at hc'
  | zero =>
    simp only[List.getElem?_cons_zero,Option.some.injEq]at hc'
    subst hc'
    have hu':u=.slice (some ⟨B,0,none⟩) es.length cap:=by
      have:(some (Value.slice (some ⟨B,0,none⟩) es.length cap))=some u:=hu
      exact(Option.some.inj this).symm
    subst hu'
    exact .own _ B cap sz es us cur T hB hh hcap hm hcs hsz hc hr
theorem zLv{es es2:List (List CV)}{i j:Nat}{c:CV}(h:elC (es++es2) i j=some c):(i<es.length∧elC es i j=some c)∨(es.length≤i∧elC es2 (i-es.length) j=some c):=by
  obtain⟨e,h1,h2⟩:=JZ h
  by_cases hi:i<es.length
  · rw[List.getElem?_append_left hi]at h1
    exact .inl ⟨hi,JM h1 h2⟩
  · rw[List.getElem?_append_right (by omega)]at h1
    exact .inr ⟨by omega,JM h1 h2⟩
theorem zJJ{es:List (List CV)}{sz i j:Nat}{c:CV}(hs:∀e∈es,e.length=sz)(h:elC es i j=some c):i<es.length∧j<sz:=by
  obtain⟨e,h1,h2⟩:=JZ h
  refine⟨(List.getElem?_eq_some_iff.1 h1).1,?_⟩
  rw[←hs e (List.mem_of_getElem? h1)]
  exact(List.getElem?_eq_some_iff.1 h2).1
def zDU(n sz:Nat)(us:Nat→Nat→Value):List Value:=(List.range (n*sz)).map fun k=>us (k / sz) (k%sz)
theorem zCx(n sz:Nat)(us:Nat→Nat→Value):(zDU n sz us).length=n*sz:=by simp[zDU]
theorem zNP{n sz:Nat}{us:Nat→Nat→Value}{i j:Nat}(hi:i<n)(hj:j<sz):(zDU n sz us)[i*sz+j]? =some (us i j):=by
  have hlt:i*sz+j<n*sz:=by
    have:(i+1)*sz≤n*sz:=Nat.mul_le_mul_right _ (by omega)
    rw[Nat.add_mul]at this
    omega
  have h1:(i*sz+j) / sz=i:=by rw[Nat.add_comm,Nat.add_mul_div_right _ _ (by omega),Nat.div_eq_of_lt hj,Nat.zero_add]
  have h2:(i*sz+j)%sz=j:=by rw[Nat.add_comm,Nat.add_mul_mod_self_right,Nat.mod_eq_of_lt hj]
  simp[zDU,List.getElem?_map,List.getElem?_range hlt,h1,h2]
theorem zLz{n sz:Nat}{us:Nat→Nat→Value}{k:Nat}{u:Value}(h:(zDU n sz us)[k]? =some u):k<n*sz∧u=us (k / sz) (k%sz):=by
  have hk:k<n*sz:=by have:=(List.getElem?_eq_some_iff.1 h).1;rwa[zCx]at this
  refine⟨hk,?_⟩
  simp only[zDU,List.getElem?_map,List.getElem?_range hk,Option.map_some,Option.some.injEq]at h
  exact h.symm
theorem zNL{es:List (List CV)}{sz:Nat}(hs:∀e∈es,e.length=sz){k:Nat}(hk:k<es.length*sz):∃c,elC es (k / sz) (k%sz)=some c:=by
  have hp : 0 < sz := by rcases Nat.eq_zero_or_pos sz with h | h; · subst h; simp at hk
                         · exact h
  have h1:k / sz<es.length:=(Nat.div_lt_iff_lt_mul hp).2 hk
  have h2:k%sz<es[k / sz].length:=by rw[hs _ (List.getElem_mem h1)];exact Nat.mod_lt _ hp
  exact⟨es[k / sz][k%sz],JM (List.getElem?_eq_getElem h1) (List.getElem?_eq_getElem h2)⟩
theorem Qg.own_or{w Z ω p v sz es}(h:Qg w Z ω p v (.sl true sz es)):(v=.slice none 0 0∧es=[])∨
    ∃(b cap:Nat) (us:Nat→Nat→Value) (cur:Array Value) (T:TypeId),v=.slice (some ⟨b,0,none⟩) es.length cap∧ω b=some p∧w.heap[b]? =some (.cells cur T (0,0))∧es.length≤cap∧cap≤maxLen∧cur.size=cap*sz∧(∀e∈es,e.length=sz)∧
      (∀i j c,elC es i j=some c→cur[i*sz+j]? =some (us i j))∧(∀i j c,elC es i j=some c→Qg w Z ω (p++[i,j]) (us i j) c):=by
  cases h with
  |nil=>exact .inl ⟨rfl,rfl⟩
  |own _ b cap _ _ us cur T hω hb hcap hm hcs hsz hc hr=>exact .inr ⟨b,cap,us,cur,T,rfl,hω,hb,hcap,hm,hcs,hsz,hc,hr⟩
theorem zNt{P:Program}(w:World)(t ty e T':TypeId)(i:TypeInfo)(ht:P.underlying t=some (.slice e))(hi:P.info? e=some i)
    (g sLen sCap:Nat) (cur:Array Value) (hg:w.heap[g]? =some (.cells cur T' (0,0)))
    (a:Addr) (m c:Nat) (news:List Value) (hl:news.length=m*i.size) (hnews:∀(j:Nat) u,news[j]? =some u→w.cell? (a.add j)=some u) (h1:∀u∈news,u.oneCell'=true)
    (hroom:sLen+m≤sCap) (hfit:sLen*i.size+news.length≤cur.size):
    (Builtin.append_ #[t,t] ty #[.slice (some ⟨g,0,none⟩) sLen sCap,.slice (some a) m c]).run P w=
      .ok (.slice (some ⟨g,0,none⟩) (sLen+m) sCap) (w.setRow g (cur.toList.take (sLen*i.size)++news++cur.toList.drop (sLen*i.size+news.length)).toArray):=by
  have hf:=run_firstCells_some (P:=P) (w:=w) i.size m a m c news hl hnews
  have hst:=run_storeCells_at P g (sLen*i.size) T' news 0 cur w hg (by simpa using hfit) h1
  simp only[Nat.add_zero]at hst
  simp[Builtin.append_,run_underlying ht,sizeOf,typeInfo,hi,Builtin.lenOf,hroom,hf,Addr.add_lit,hst]
theorem zKD{P:Program}{cx:Cx}{T:Nat→Option TI}(hT:TOk P T){st a w Z ω}{d:Nat}{t e ty:TypeId}{ie:TI}(h:Rel cx st a w Z ω)(hd:st.okD d)(ht:zCO T t=some e)(he:T e=some ie)
    {s y:Value} {sz:Nat} {es es2:List (List CV)} (hszi:sz=ie.size) (hpos:0<sz) (hs:Qg w Z ω [2,0,0] s (.sl true sz es))
    {ad:Option Addr} {cap2:Nat} (hy:y=.slice ad es2.length cap2) (us2:Nat→Nat→Value)
    (hc2:∀A,ad=some A→∀i j c,elC es2 i j=some c→w.cell? ⟨A.block,A.off+(i*sz+j),none⟩=some (us2 i j)) (hsp:es2≠ []→∀A,ad=some A→A.spot=none) (hn:ad=none→es2=[])
    (hr2:∀i j c,elC es2 i j=some c→Qg w Z ω [2,0,0,es.length+i,j] (us2 i j) c) (hsz2:∀e∈es2,e.length=sz)
    (hm:es.length+es2.length≤maxLen) (hb:(es.length+es2.length)*ie.bytes≤140737488355328):
    ∃v' w' ω',(Builtin.append_ #[t,t] ty #[s,y]).run P w=.ok v' w'∧Rel cx (st.put d (.val false [.sl true sz (es++es2)])) (a.put (some d) v') w' Z ω':=by
  have hu:=zCR hT ht
  obtain⟨info,i1,i2,i3,⟨z,i4,i5,i6⟩,_⟩:=hT e ie he
  have hzs:z.cells.size=sz:=by
    have:=(i5.rep (w:=w) (Z:=Z) (ω:=ω)).1
    rw[←Array.length_toList,this,i6.2,hszi]
  have hm63:es.length+es2.length≤9223372036854775807:=by simp only[maxLen]at hm;omega
  have hro:∀r,r≠zn.slot d→∀b x,ω b=some (r.path++x)→Jt [2,0] 0 1 [0,d] 0 ω b=some (r.path++x):=by
    intro r hr b x hb
    refine qk hb zA9 ?_
    have:=Y2 (r:=.slot d) hr (S:=[]) (o:=0) (n:=1) (x:=x)
    simpa [zn.path]using this
  have hmv:∀b r,ω b=some (2::0::0::r)→Jt [2,0] 0 1 [0,d] 0 ω b=some (0::d::0::r):=fun b r hb=>by
    have:=zBq (S:=[2,0]) (D:=[0,d]) (o:=0) (n:=1) (o2:=0) (ω:=ω) (b:=b) (j:=0) (r:=r) (by rw[hb];rfl) (by omega)
    rw[this];rfl
  by_cases hm0:es2=[]
  ·
    subst hm0
    rw[List.append_nil]
    obtain⟨ω',hw⟩:=h.putT hd (v:=s) (ag:=false) (cs:=[.sl true sz es]) hs.one (by
      refine⟨by rw[ZC hs.one];rfl,fun j c u hc hu=>?_⟩
      rw[ZC hs.one]at hu
      cases j with
      |succ j=>simp at hc
      |zero=>simp at hc hu;subst hc;subst hu;exact hs)
    obtain⟨ad1,cap1,hv1,hcap1,_,_⟩:=hs.slice
    refine⟨s,w,ω',?_,hw⟩
    subst hy
    rw[hv1]
    have hle:es.length≤cap1:=hcap1
    cases ad1 with
    |none=>cases ad<;>simp[Builtin.append_,run_underlying hu,sizeOf,typeInfo,i1,Builtin.lenOf,hle,Builtin.firstCells,loadCells,loadCellsFrom]
    |some A1=>cases ad<;>simp[Builtin.append_,run_underlying hu,sizeOf,typeInfo,i1,Builtin.lenOf,hle,Builtin.firstCells,loadCells,loadCellsFrom,storeCells]
  · have hpos2:0<es2.length:=List.length_pos_iff.2 hm0
    obtain⟨A,rfl⟩:∃A,ad=some A:=by
      cases ad with
      |none=>exact absurd (hn rfl) hm0
      |some A=>exact⟨A,rfl⟩
    obtain⟨Ab,Ao,Asp⟩:=A
    have:=hsp hm0 _ rfl
    simp only at this
    subst this
    have hnews:∀j v,(zDU es2.length sz us2)[j]? =some v→w.cell? ((⟨Ab,Ao,none⟩:Addr).add j)=some v:=by
      intro k v hv
      obtain⟨hk,rfl⟩:=zLz hv
      obtain⟨c,hc⟩:=zNL hsz2 hk
      have:=hc2 _ rfl _ _ _ hc
      rw[add_lit]
      rw[Nat.div_add_mod' k sz]at this
      exact this
    have hones:∀u∈zDU es2.length sz us2,u.oneCell'=true:=by
      intro u hu
      obtain⟨k,hk⟩:=List.mem_iff_getElem?.1 hu
      obtain⟨hk',rfl⟩:=zLz hk
      obtain⟨c,hc⟩:=zNL hsz2 hk'
      exact(hr2 _ _ _ hc).one
    have hnl:(zDU es2.length sz us2).length=es2.length*info.size:=by rw[zCx,i2,hszi]
    have hnew:∀(olds:List Value) (old:Nat),old<es.length+es2.length→olds.length=es.length*sz→(∀i j c,elC es i j=some c→∃u,olds[i*sz+j]? =some u∧Qg w Z ω [2,0,0,i,j] u c)→(∀e∈es,e.length=sz)→
        ∃ω',Rel cx (st.put d (.val false [.sl true sz (es++es2)])) (a.put (some d) (.slice (some ⟨w.heap.size,0,none⟩) (es.length+es2.length) (grownCap w (es.length+es2.length) old e)))
          (w.drew.alloc (.cells (olds.toArray++(zDU es2.length sz us2).toArray++Builtin.zeroCells z.cells (grownCap w (es.length+es2.length) old e-(es.length+es2.length))) e)) Z ω':=by
      intro olds old hold hol hel hes
      refine⟨grow w.heap.size [0,d,0] (Jt [2,0] 0 1 [0,d] 0 ω),?_⟩
      have hheap:∀(o:Obj) b,b<w.heap.size→(w.drew.alloc o).heap[b]? =w.heap[b]? :=fun o b hb=>heap_alloc_old w.drew _ hb
      have hlt:∀b p,ω b=some p→b≠w.heap.size:=fun b p hb=>by have:=h.inv.lt b p hb;omega
      have hlen:(es++es2).length=es.length+es2.length:=List.length_append
      rw[←hlen]
      have hcg:=grownCap_ge w (es++es2).length old e
      have hcm:=grownCap_le_maxLen w (es++es2).length old e (by rw[hlen];exact hm)
      have hbig:∀i j c,elC (es++es2) i j=some c→∃u,(olds.toArray++(zDU es2.length sz us2).toArray++Builtin.zeroCells z.cells (grownCap w (es++es2).length old e-(es++es2).length))[i*sz+j]? =some u∧
          Qg w Z ω [2,0,0,i,j] u c:=by
        intro i j c hij
        rcases zLv hij with⟨hi,hij⟩|⟨hi,hij⟩
        · obtain⟨u,hu,hR⟩:=hel i j c hij
          refine⟨u,?_,hR⟩
          have hlt2:=(List.getElem?_eq_some_iff.1 hu).1
          rw[Array.append_assoc,Array.getElem?_append_left (by simpa using hlt2)]
          simpa using hu
        · obtain⟨k1,k2⟩:=zJJ hsz2 hij
          refine⟨us2 (i-es.length) j,?_,?_⟩
          · have hfl:=zNP (us:=us2) k1 k2
            have hix:i*sz+j=es.length*sz+((i-es.length)*sz+j):=by
              rw[←Nat.add_assoc,←Nat.add_mul,show es.length+(i-es.length)=i by omega]
            have hfl':=(List.getElem?_eq_some_iff.1 hfl).1
            rw[Array.append_assoc,Array.getElem?_append_right (by simp[hol];omega),Array.getElem?_append_left (by simp[hol];omega)]
            simp only[List.size_toArray,hol,List.getElem?_toArray]
            rw[show i*sz+j-es.length*sz=(i-es.length)*sz+j by omega]
            exact hfl
          · have:=hr2 _ _ _ hij
            rw[show es.length+(i-es.length)=i by omega]at this
            exact this
      refine h.putSlice hd (((h.inv.reloc _ _ _ _ _).drew).alloc _ _ _) (fun b hb=>hheap _ b (h.inv.zlt b hb)) (fun r hr b x hb=>⟨zFC (hro r hr b x hb) (hlt b _ hb) (fun e=>hr (Zw (r:=r) (s:=.slot d) (x:=x) (y:=[0]) (by rw[e];rfl)).1),hheap _ b (h.inv.lt b _ hb)⟩)
        (us:=fun i j=>((olds.toArray++(zDU es2.length sz us2).toArray++Builtin.zeroCells z.cells (grownCap w (es++es2).length old e-(es++es2).length))[i*sz+j]?).getD undef)
        zHa (heap_alloc_new w.drew _) hcg hcm ?_ (fun x hx=>?_) (fun i j c hij=>?_) (fun i j c hij=>?_)
      · have hzl:∀n,(Builtin.zeroCells z.cells n).size=n*sz:=fun n=>by rw[size_zeroCells,hzs]
        simp only[Array.size_append,List.size_toArray,hzl,hol,zCx]
        rw[←Nat.add_mul,←Nat.add_mul]
        congr 1
        omega
      · rcases List.mem_append.1 hx with hx|hx
        · exact hes x hx
        · exact hsz2 x hx
      · obtain⟨u,hu,_⟩:=hbig i j c hij
        rw[hu];rfl
      · obtain⟨u,hu,hR⟩:=hbig i j c hij
        rw[hu]
        refine hR.conv _ (fun b hb=>⟨hb,hheap _ b (h.inv.zlt b hb)⟩) fun b r hb=>⟨?_,hheap _ b (h.inv.lt b _ hb)⟩
        exact zFC (hmv b _ hb) (hlt b _ hb) (by simp)
    subst hy
    rcases hs.own_or with⟨rfl,rfl⟩|⟨b,cap,us,cur,T',rfl,hω,hbh,hcap,hcm,hcs,hszs,hcc,hrr⟩
    · obtain⟨ω',hw⟩:=hnew [] 0 (by simpa using hpos2) (by simp) (fun i j c hij=>by simp[elC]at hij) (by simp)
      have hr:=run_append_nil (P:=P) (w:=w) t ty e info z hu i1 i4 ⟨Ab,Ao,none⟩ es2.length cap2 (zDU es2.length sz us2) hnl hnews hpos2 (by simp at hm63;omega) (by simp only[List.length_nil,Nat.zero_add]at hb;rw[i3];omega)
      simp only[List.length_nil,Nat.zero_add,List.nil_append,Array.empty_append]at hw
      exact⟨_,_,ω',hr,hw⟩
    · by_cases hroom:es.length+es2.length≤cap
      · have hfit:es.length*info.size+(zDU es2.length sz us2).length≤cur.size:=by
          rw[zCx,i2,←hszi,hcs,←Nat.add_mul];exact Nat.mul_le_mul_right _ hroom
        have hr:=zNt (P:=P) w t ty e T' info hu i1 b es.length cap cur hbh ⟨Ab,Ao,none⟩ es2.length cap2 (zDU es2.length sz us2) hnl hnews hones hroom hfit
        rw[i2,←hszi]at hr
        have hfit':es.length*sz+es2.length*sz≤cur.size:=by rw[hcs,←Nat.add_mul];exact Nat.mul_le_mul_right _ hroom
        have hlen:(es++es2).length=es.length+es2.length:=List.length_append
        refine⟨_,_,Jt [2,0] 0 1 [0,d] 0 ω,hr,?_⟩
        rw[←hlen]
        have hZb:∀b0,Z b0→b0≠b:=fun b0 hz he=>by subst he;exact h.inv.disj _ _ hz hω
        have hcur:∀i j c,elC (es++es2) i j=some c→∃u,(cur.toList.take (es.length*sz)++zDU es2.length sz us2++cur.toList.drop (es.length*sz+(zDU es2.length sz us2).length)).toArray[i*sz+j]? =some u∧Qg w Z ω [2,0,0,i,j] u c:=by
          intro i j c hij
          have htl:(cur.toList.take (es.length*sz)).length=es.length*sz:=by simp;omega
          rcases zLv hij with⟨hi,hij⟩|⟨hi,hij⟩
          · obtain⟨k1,k2⟩:=zJJ hszs hij
            have hlt:i*sz+j<es.length*sz:=by
              have:(i+1)*sz≤es.length*sz:=Nat.mul_le_mul_right _ (by omega)
              rw[Nat.add_mul]at this;omega
            refine⟨us i j,?_,by simpa using hrr i j c hij⟩
            rw[List.getElem?_toArray,List.append_assoc,List.getElem?_append_left (by rw[htl];exact hlt),List.getElem?_take_of_lt hlt,Array.getElem?_toList]
            exact hcc i j c hij
          · obtain⟨k1,k2⟩:=zJJ hsz2 hij
            have hfl:=zNP (us:=us2) k1 k2
            have hfl':=(List.getElem?_eq_some_iff.1 hfl).1
            have hix:i*sz+j=es.length*sz+((i-es.length)*sz+j):=by
              rw[←Nat.add_assoc,←Nat.add_mul,show es.length+(i-es.length)=i by omega]
            refine⟨us2 (i-es.length) j,?_,?_⟩
            · rw[List.getElem?_toArray,List.append_assoc,List.getElem?_append_right (by rw[htl];omega),htl,List.getElem?_append_left (by omega),show i*sz+j-es.length*sz=(i-es.length)*sz+j by omega]
              exact hfl
            · have:=hr2 _ _ _ hij
              rw[show es.length+(i-es.length)=i by omega]at this
              exact this
        have hne:∀b0 p,ω b0=some p→p≠ [2,0,0]→b0≠b:=fun b0 p hb0 hp he=>by subst he;rw[hω]at hb0;exact hp (Option.some.inj hb0).symm
        refine h.putSlice hd ((h.inv.reloc _ _ _ _ _).setRow (hmv b [] hω) _) (fun b0 hz=>setRow_other _ _ _ _ (hZb b0 hz)) (fun r hr' b0 x hb0=>⟨hro r hr' b0 x hb0,setRow_other _ _ _ _ (hne b0 _ hb0 (Yo r 0 x [0]))⟩)
          (us:=fun i j=>((cur.toList.take (es.length*sz)++zDU es2.length sz us2++cur.toList.drop (es.length*sz+(zDU es2.length sz us2).length)).toArray[i*sz+j]?).getD undef)
          (hmv b [] hω) (setRow_heap w b cur _ T' _ hbh) (by rw[hlen];exact hroom) hcm ?_ (fun x hx=>?_) (fun i j c hij=>?_) (fun i j c hij=>?_)
        · simp only[List.size_toArray,List.length_append,List.length_take,List.length_drop,Array.length_toList,zCx]
          omega
        · rcases List.mem_append.1 hx with hx|hx
          · exact hszs x hx
          · exact hsz2 x hx
        · obtain⟨u,hu,_⟩:=hcur i j c hij
          rw[hu];rfl
        · obtain⟨u,hu,hR⟩:=hcur i j c hij
          rw[hu]
          exact hR.conv _ (fun b0 hz=>⟨hz,setRow_other _ _ _ _ (hZb b0 hz)⟩) fun b0 r hb0=>⟨hmv b0 _ hb0,setRow_other _ _ _ _ (hne b0 _ hb0 (by simp))⟩
      · have hol:(cur.toList.take (es.length*sz)).length=es.length*sz:=by
          have:es.length*sz≤cap*sz:=Nat.mul_le_mul_right _ hcap
          simp;omega
        obtain⟨ω',hw⟩:=hnew (cur.toList.take (es.length*sz)) cap (by omega) hol (fun i j c hij=>by
          obtain⟨k1,k2⟩:=zJJ hszs hij
          have hlt:i*sz+j<es.length*sz:=by
            have:(i+1)*sz≤es.length*sz:=Nat.mul_le_mul_right _ (by omega)
            rw[Nat.add_mul]at this;omega
          refine⟨us i j,?_,by simpa using hrr i j c hij⟩
          rw[List.getElem?_take_of_lt hlt,Array.getElem?_toList]
          exact hcc i j c hij) hszs
        have holds:∀j v,(cur.toList.take (es.length*sz))[j]? =some v→w.cell? ((⟨b,0,none⟩:Addr).add j)=some v:=by
          intro j v hv
          have hj:=(List.getElem?_eq_some_iff.1 hv).1
          rw[hol]at hj
          rw[List.getElem?_take_of_lt hj,Array.getElem?_toList]at hv
          rw[add_lit,zDH hbh,Nat.zero_add]
          exact hv
        have hr:=run_append_grow (P:=P) (w:=w) t ty e info z hu i1 i4 ⟨b,0,none⟩ es.length cap (cur.toList.take (es.length*sz)) (by rw[hol,i2,hszi]) holds ⟨Ab,Ao,none⟩ es2.length cap2 (zDU es2.length sz us2) hnl hnews (by omega)
          (by omega) (growslice_fits (by omega) (by rw[i3];exact hb))
        exact⟨_,_,ω',hr,hw⟩
end Go.TL
