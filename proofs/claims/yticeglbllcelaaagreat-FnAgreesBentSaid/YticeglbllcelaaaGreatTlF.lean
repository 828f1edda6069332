import Derived.Test.YticeglbllcelaaaGreatTlE
set_option linter.unusedVariables false
namespace Go.TL
theorem zMP:∀(q:List (Nat×Nat)) (j i:Nat),spine (q++[(j,i)])=qj q++[j]
 |[],j,i=>rfl
 |[(j0,i0)],j,i=>rfl
 |(j0,i0)::y::q,j,i=>by
  have:=zMP (y::q) j i
  simp only[List.cons_append,spine,qj]at this⊢
  rw[this]
theorem zL6:∀(q:List (Nat×Nat)) (j i:Nat),ZH (q++[(j,i)])=i
 |[],j,i=>rfl
 |[(j0,i0)],j,i=>rfl
 |(j0,i0)::y::q,j,i=>by
  have:=zL6 (y::q) j i
  simpa [ZH]using this
structure zO5 where
 r:zn
 q:List (Nat×Nat)
 o:Nat
 e:List CV
def adS(st:St):Operand→Option zO5
 | .tmp t => match lk st.s t with
  | some (.adr r q m o) => match rowOf st r with
   |some row=>match zAM row q with
    |some e=>bif !q.isEmpty&&e.length==m then some ⟨r,q,o,e⟩else none
    |none=>none
   |none=>none
  |_=>none
 |_=>none
theorem zEy{cx st a w Z ω}(h:Rel cx st a w Z ω){x:Operand}{s:zO5}(hx:adS st x=some s):
  ∃b cur T us row,a.eval x=.pointer (some ⟨b,ZH s.q*s.e.length+s.o,none⟩)∧ω b=some (s.r.path++spine s.q)∧w.heap[b]? =some (.cells cur T (0,0))∧s.q≠ []∧rowOf st s.r=some row∧zAM row s.q=some s.e∧
   Ze w Z ω s.r.path us row∧∀(j:Nat) c,s.e[j]? =some c→∃u,cur[ZH s.q*s.e.length+j]? =some u∧Qg w Z ω (s.r.path++qj s.q++[j]) u c:=by
 cases x with
 | tmp t =>
  simp only[adS]at hx
  split at hx
  ·rename_i r q m o hl
   split at hx
   ·rename_i row hrow
    split at hx
    ·rename_i e hg
     cases hm:(!q.isEmpty&&e.length==m)with
     |false=>simp only[hm,cond_false]at hx;cases hx
     |true=>
      simp only[hm,cond_true]at hx
      cases hx
      have hm':q≠ []∧e.length=m:=by simpa using hm
      obtain⟨us,hR,hus⟩:=h.row hrow
      obtain⟨b,cur,T,k1,k2,k3⟩:=zKd q _ us row e hm'.1 hR hg
      obtain⟨b',g1,g2⟩:=h.hs t _ (zw hl)
      have hbb:b'=b:=h.inv.inj _ _ _ g1 k1
      subst hbb
      refine⟨b',cur,T,us,row,?_,k1,k2,hm'.1,hrow,hg,hR,k3⟩
      show a.tmps.getD t undef= _
      rw[g2,hm'.2]
    ·cases hx
   ·cases hx
  ·cases hx
 |const v=>simp[adS]at hx
 |global g=>simp[adS]at hx
 |func f=>simp[adS]at hx
theorem zJW{w:World}{Z:JI}{ω:Own}{n:Nat}{cs:List CV}(hn:cs.length=n)(g:Nat→Option Value)(P:Nat→Zu)(h:∀j c,cs[j]? =some c→∃u,g j=some u∧Qg w Z ω (P j) u c):
  ∃us:List Value,us.length=n∧(∀j u,us[j]? =some u→g j=some u)∧(∀u∈us,u.oneCell'=true)∧∀j c u,cs[j]? =some c→us[j]? =some u→Qg w Z ω (P j) u c:=by
 refine⟨(List.range n).map fun j=>(g j).getD undef,by simp,fun j u hu=>?_,fun u hu=>?_,fun j c u hc hu=>?_⟩
 ·have hj:j<n:=by
   have:=(List.getElem?_eq_some_iff.1 hu).1
   simpa using this
  rw[List.getElem?_map,List.getElem?_range hj]at hu
  obtain⟨u',h1,h2⟩:=h j cs[j] (List.getElem?_eq_getElem (by omega))
  simp only[Option.map_some,h1,Option.getD_some,Option.some.injEq]at hu
  rw[←hu];exact h1
 ·obtain⟨j,hj,rfl⟩:=List.mem_map.1 hu
  have hj:j<n:=by simpa using hj
  obtain⟨u',h1,h2⟩:=h j cs[j] (List.getElem?_eq_getElem (by omega))
  rw[h1]
  exact h2.one
 ·have hj:j<n:=by
   have:=(List.getElem?_eq_some_iff.1 hu).1
   simpa using this
  rw[List.getElem?_map,List.getElem?_range hj]at hu
  obtain⟨u',h1,h2⟩:=h j c hc
  simp only[Option.map_some,h1,Option.getD_some,Option.some.injEq]at hu
  rw[←hu];exact h2
theorem zQZ{P:Program}{cx:Cx}{T:Nat→Option TI}(hT:TOk P T){st:St}{o:Oper}{t:TypeId}{x:Operand}{d:Nat}{i:TI}{s:zO5}{cs:List CV}
  (ho:o.op=.load t x) (hdst:o.dst=some d) (hd:st.okD d) (ht:T t=some i) (hx:adS st x=some s) (hcs:(s.e.drop s.o).take i.size=cs) (hl:cs.length=i.size) (hr:s.r.eqb (.slot d)=false):
  zCN P cx o st (st.put d (bif zZ cs then .val i.ag cs else .ref s.r s.q s.e.length s.o i.size i.ag)):=by
 intro a w Z ω h
 obtain⟨b,cur,T',us0,row,h1,h2,h3,h4,h5,h6,h7,h8⟩:=zEy h hx
 have hcell:∀(j:Nat) c,cs[j]? =some c→∃u,cur[ZH s.q*s.e.length+(s.o+j)]? =some u∧Qg w Z ω (s.r.path++qj s.q++[s.o+j]) u c:=by
  intro j c hc
  rw[←hcs,List.getElem?_take]at hc
  split at hc
  ·rw[List.getElem?_drop]at hc
   exact h8 _ c hc
  ·cases hc
 obtain⟨us,u1,u2,u3,u4⟩:=zJW hl (fun j=>cur[ZH s.q*s.e.length+(s.o+j)]?) (fun j=>s.r.path++qj s.q++[s.o+j]) hcell
 obtain⟨v,hv,hvc,hvs⟩:=zCU (hT t i ht) w b (ZH s.q*s.e.length+s.o) us u1 (fun j u hu=>by rw[zDH h3,Nat.add_assoc];exact u2 j u hu) u3
 refine⟨v,w,Z,ω,.inl ?_,?_⟩
 ·simp[execOp,ho,Instr.loadAt,Instr.sureAddr,h1,hv]
 ·rw[hdst]
  refine h.put_same hd ?_
  cases hf:zZ cs with
  |true=>
   refine⟨hvs,by rw[hvc,u1,hl],fun j c u hc hu=>?_⟩
   rw[hvc]at hu
   have:=u4 j c u hc hu
   rw[qp,List.all_eq_true]at hf
   exact this.flat_conv (hf c (List.mem_of_getElem? hc)) _ fun b hb=>⟨hb,rfl⟩
  | false =>
   refine⟨hvs,?_,fun j u hu=>?_⟩
   ·rw[←Array.length_toList,hvc,u1]
   ·have hu':us[j]? =some u:=by rw[←hvc];simpa using hu
    cases hq:s.q with
    |nil=>exact absurd hq h4
    |cons y q=>
     rw[←hq]
     have:=u2 j u hu'
     unfold CellIs
     rw[hq]at h2 this⊢
     exact⟨b,cur,T',h2,h3,this⟩
theorem zHt{cx st a w Z ω}(h:Rel cx st a w Z ω){t:Nat}{cs:List CV}(hl:lk st.s t=some (.fad cs)):
  ∃b o,a.tmps.getD t undef=.pointer (some ⟨b,o,none⟩)∧Z b∧zZ cs=true∧∀(j:Nat) c,cs[j]? =some c→∃u,w.cell? ⟨b,o+j,none⟩=some u∧Qg w Z ω [] u c:=by
 obtain⟨A,h1,h2,h3,h4,h5⟩:=h.hs t _ (zw hl)
 obtain⟨b,o,sp⟩:=A
 simp only at h1
 subst h1
 exact⟨b,o,h2,h3,h4,h5⟩
theorem zNm{cs:List CV}(h:zZ cs=true)(n:Nat):zZ (cs.take n)=true:=by
 rw[qp,List.all_eq_true]at*
 exact fun c hc=>h c (List.mem_of_mem_take hc)
theorem zNl{cs:List CV}(h:zZ cs=true)(n:Nat):zZ (cs.drop n)=true:=by
 rw[qp,List.all_eq_true]at*
 exact fun c hc=>h c (List.mem_of_mem_drop hc)
theorem zPG{P:Program}{cx:Cx}{T:Nat→Option TI}(hT:TOk P T){st:St}{o:Oper}{t:TypeId}{x:Nat}{d:Nat}{i:TI}{cs0 cs:List CV}
  (ho:o.op=.load t (.tmp x)) (hdst:o.dst=some d) (hd:st.okD d) (ht:T t=some i) (hx:lk st.s x=some (.fad cs0)) (hcs:cs0.take i.size=cs) (hl:cs.length=i.size):
  zCN P cx o st (st.put d (.val i.ag cs)):=by
 intro a w Z ω h
 obtain⟨b,o',h1,h2,h3,h4⟩:=zHt h hx
 have hf:zZ cs=true:=by rw[←hcs];exact zNm h3 _
 have hcell:∀(j:Nat) c,cs[j]? =some c→∃u,w.cell? ⟨b,o'+j,none⟩=some u∧Qg w Z ω [] u c:=by
  intro j c hc
  rw[←hcs,List.getElem?_take]at hc
  split at hc
  ·exact h4 _ c hc
  ·cases hc
 obtain⟨us,u1,u2,u3,u4⟩:=zJW hl (fun j=>w.cell? ⟨b,o'+j,none⟩) (fun j=>[]) hcell
 obtain⟨v,hv,hvc,hvs⟩:=zCU (hT t i ht) w b o' us u1 u2 u3
 refine⟨v,w,Z,ω,.inl ?_,?_⟩
 ·have he:a.eval (.tmp x)=.pointer (some ⟨b,o',none⟩):=h1
  simp[execOp,ho,Instr.loadAt,Instr.sureAddr,he,hv]
 ·rw[hdst]
  refine h.put_same hd ⟨hvs,by rw[hvc,u1,hl],fun j c u hc hu=>?_⟩
  rw[hvc]at hu
  have:=u4 j c u hc hu
  rw[qp,List.all_eq_true]at hf
  exact this.flat_conv (hf c (List.mem_of_getElem? hc)) _ fun b hb=>⟨hb,rfl⟩
def zQU(T:Nat→Option TI)(t:TypeId)(f:Nat):Option Nat:=match T t with
 | some i => match i.k with
  |.st fs=>match fs[f]? with
   |some (o,s+1,_)=>some o
   |_=>none
  |_=>none
 |none=>none
theorem zGc{P:Program}{T:Nat→Option TI}(hT:TOk P T){t:TypeId}{f o:Nat}(h:zQU T t f=some o)(b k:Nat)(w:World)(x:Value)(hx:x=.pointer (some ⟨b,k,none⟩)):
  (Instr.fieldAt t x f).run P w=.ok (.pointer (some ⟨b,k+o,none⟩)) w:=by
 unfold zQU at h
 split at h
 ·rename_i i hi
  split at h
  ·rename_i fs hk
   split at h
   ·rename_i o' s ft hf
    cases h
    obtain⟨_,_,_,_,_,_,h6⟩:=hT t i hi
    rw[hk]at h6
    obtain⟨fields,g1,g2,g3⟩:=h6
    obtain⟨fl,fi,k1,k2,k3,k4⟩:=g3 f _ _ _ hf
    have hs:(Go.sizeOf fl.type).run P w=.ok (s+1) w:=by simp[Go.sizeOf,typeInfo,k3,k4]
    subst hx
    simp[Instr.fieldAt,run_underlying g1,k1,Instr.sureAddr,fieldPlace,hs,add_lit,k2]
   ·cases h
  ·cases h
 ·cases h
theorem zRm{P:Program}{cx:Cx}{T:Nat→Option TI}(hT:TOk P T){st:St}{o:Oper}{t:TypeId}{x:Nat}{d f off:Nat}{r:zn}{q:List (Nat×Nat)}{m k:Nat}
  (ho:o.op=.fieldAddr t (.tmp x) f) (hdst:o.dst=some d) (hd:st.okD d) (ht:zQU T t f=some off) (hx:lk st.s x=some (.adr r q m k)) (hr:r.eqb (.slot d)=false):
  zCN P cx o st (st.put d (.adr r q m (k+off))):=by
 intro a w Z ω h
 obtain⟨b,h1,h2⟩:=h.hs x _ (zw hx)
 refine⟨.pointer (some ⟨b,ZH q*m+(k+off),none⟩),w,Z,ω,.inl ?_,?_⟩
 ·have:=zGc hT ht b (ZH q*m+k) w (a.tmps.getD x undef) h2
  have he:a.eval (.tmp x)=a.tmps.getD x undef:=rfl
  simp only[execOp,ho,he,Sem.run_bind,this,Result.andThen_ok]
  simp[Nat.add_assoc]
 ·rw[hdst]
  exact h.put_same hd ⟨b,h1,rfl⟩
theorem zQy{P:Program}{cx:Cx}{T:Nat→Option TI}(hT:TOk P T){st:St}{o:Oper}{t:TypeId}{x:Nat}{d f off:Nat}{cs:List CV}
  (ho:o.op=.fieldAddr t (.tmp x) f) (hdst:o.dst=some d) (hd:st.okD d) (ht:zQU T t f=some off) (hx:lk st.s x=some (.fad cs)):
  zCN P cx o st (st.put d (.fad (cs.drop off))):=by
 intro a w Z ω h
 obtain⟨b,o',h1,h2,h3,h4⟩:=zHt h hx
 refine⟨.pointer (some ⟨b,o'+off,none⟩),w,Z,ω,.inl ?_,?_⟩
 ·have:=zGc hT ht b o' w (a.tmps.getD x undef) h1
  have he:a.eval (.tmp x)=a.tmps.getD x undef:=rfl
  simp only[execOp,ho,he,Sem.run_bind,this,Result.andThen_ok]
  rfl
 ·rw[hdst]
  refine h.put_same hd ⟨_,rfl,rfl,h2,zNl h3 _,fun j c hc=>?_⟩
  rw[List.getElem?_drop]at hc
  obtain⟨u,g1,g2⟩:=h4 _ c hc
  exact⟨u,by rw[←g1];simp[Nat.add_assoc],g2⟩
theorem run_indexAt{P:Program}{T:Nat→Option TI}(hT:TOk P T){t e:TypeId}{ie:TI}(ht:zCO T t=some e)(he:T e=some ie)(b o len cap:Nat)(i:Int)(k:IntKind)(w:World)(h0:0≤i)(h1:i<len):
  (Instr.indexAt t (.slice (some ⟨b,o,none⟩) len cap) (.int k i)).run P w=.ok (.pointer (some ⟨b,o+i.toNat*ie.size,none⟩)) w:=by
 have hu:=zCR hT ht
 have hs:=(hT e ie he).sizeOf w
 simp[Instr.indexAt,asIntOf,run_underlying hu,h0,h1,hs,add_lit]
def IsE(es:List (List CV))(i:Int)(e:List CV):Prop:=0≤i∧es[i.toNat]? =some e
theorem IsE.lt{es i e}(h:IsE es i e):i.toNat<es.length:=(List.getElem?_eq_some_iff.1 h.2).1
theorem Qg.fro_inv{w Z ω p v sz es}(h:Qg w Z ω p v (.sl false sz es))(hne:es≠ []):
  ∃(b off cap:Nat) (us:Nat→Nat→Value),v=.slice (some ⟨b,off,none⟩) es.length cap∧Z b∧es.length≤cap∧cap≤maxLen∧(∀e∈es,e.length=sz)∧(∀i j c,elC es i j=some c→c.flat=true)∧
   (∀i j c,elC es i j=some c→w.cell? ⟨b,off+(i*sz+j),none⟩=some (us i j))∧(∀i j c,elC es i j=some c→Qg w Z ω (p++[i,j]) (us i j) c):=by
 cases h with
 |nil=>exact absurd rfl hne
 |fro _ a cap _ _ us hs hZ hcap hm hsz hf hc hr=>
  have hs:=hs hne
  have hZ:=hZ hne
  obtain⟨b,off,sp⟩:=a
  simp only at hs
  subst hs
  exact⟨b,off,cap,us,rfl,hZ,hcap,hm,hsz,hf,hc,hr⟩
theorem zNX{P:Program}{cx:Cx}{T:Nat→Option TI}(hT:TOk P T){st:St}{o:Oper}{t et:TypeId}{x y:Operand}{d:Nat}{s:zFp}{ie:TI}{k:IntKind}{i:Int}{e:List CV}
  (ho:o.op=.indexAddr t x y) (hdst:o.dst=some d) (hd:st.okD d) (ht:zCO T t=some et) (he:T et=some ie) (hx:slS st x=some s) (hsz:s.sz=ie.size) (hy:Ql st y=some (.int k i)) (hown:s.own=false) (hi:IsE s.es i e):
  zCN P cx o st (st.put d (.fad e)):=by
 intro a w Z ω h
 have hR:=zCc h hx
 have hv:=(qY h hy).1
 rw[hown]at hR
 have hlt:=hi.lt
 have hes:s.es≠ []:=fun h0=>by rw[h0]at hlt;simp at hlt
 obtain⟨b,off,cap,us,hev,hZ,hcap,hm,hsz',hf,hc,hr⟩:=hR.fro_inv hes
 have hrun:=run_indexAt hT ht he b off s.es.length cap i k w hi.1 (by have:=hi.1;omega)
 refine⟨.pointer (some ⟨b,off+i.toNat*ie.size,none⟩),w,Z,ω,.inl ?_,?_⟩
 ·simp only[execOp,ho,hev,hv,Sem.run_bind,hrun,Result.andThen_ok]
  rfl
 ·rw[hdst]
  refine h.put_same hd ⟨_,rfl,rfl,hZ,?_,fun j c hj=>?_⟩
  ·rw[qp,List.all_eq_true]
   intro c hc'
   obtain⟨j,hj⟩:=List.mem_iff_getElem?.1 hc'
   exact hf i.toNat j c (JM hi.2 hj)
  ·refine⟨us i.toNat j,?_,?_⟩
   ·rw[←hc i.toNat j c (JM hi.2 hj),hsz]
    simp[Nat.add_assoc]
   ·exact(hr i.toNat j c (JM hi.2 hj)).flat_conv (hf i.toNat j c (JM hi.2 hj)) _ fun b hb=>⟨hb,rfl⟩
theorem zJ1{P:Program}{cx:Cx}{T:Nat→Option TI}(hT:TOk P T){st:St}{o:Oper}{t et:TypeId}{x y:Operand}{d:Nat}{s:zFp}{ie:TI}{k:IntKind}{i:Int}{e:List CV}
  (ho:o.op=.indexAddr t x y) (hdst:o.dst=some d) (hd:st.okD d) (ht:zCO T t=some et) (he:T et=some ie) (hx:slS st x=some s) (hsz:s.sz=ie.size) (hy:Ql st y=some (.int k i)) (hown:s.own=true)
  (hi:IsE s.es i e) (hr:s.r.eqb (.slot d)=false):zCN P cx o st (st.put d (.adr s.r (s.q++[(s.o,i.toNat)]) s.sz 0)):=by
 intro a w Z ω h
 have hR:=zCc h hx
 have hv:=(qY h hy).1
 rw[hown]at hR
 have hlt:=hi.lt
 have hes:s.es≠ []:=fun h0=>by rw[h0]at hlt;simp at hlt
 obtain⟨b,cap,us,cur,T',hev,hω,_⟩:=hR.own_inv hes
 have hrun:=run_indexAt hT ht he b 0 s.es.length cap i k w hi.1 (by have:=hi.1;omega)
 refine⟨.pointer (some ⟨b,0+i.toNat*ie.size,none⟩),w,Z,ω,.inl ?_,?_⟩
 ·simp only[execOp,ho,hev,hv,Sem.run_bind,hrun,Result.andThen_ok]
  rfl
 ·rw[hdst]
  refine h.put_same hd ⟨b,?_,?_⟩
  ·rw[zMP,hω,List.append_assoc]
  ·rw[zL6,hsz];simp
theorem zOi{P:Program}{cx:Cx}{st:St}{o:Oper}{x d:Nat}{r:zn}{q:List (Nat×Nat)}{m k:Nat}
  (ho:o.op=.nilCheck (.tmp x)) (hdst:o.dst=some d) (hd:st.okD d) (hx:lk st.s x=some (.adr r q m k)) (hr:r.eqb (.slot d)=false):zCN P cx o st (st.put d (.adr r q m k)):=by
 intro a w Z ω h
 obtain⟨b,h1,h2⟩:=h.hs x _ (zw hx)
 refine⟨.pointer (some ⟨b,ZH q*m+k,none⟩),w,Z,ω,.inl ?_,?_⟩
 ·have he:a.eval (.tmp x)=.pointer (some ⟨b,ZH q*m+k,none⟩):=h2
  simp[execOp,ho,he]
 ·rw[hdst]
  exact h.put_same hd ⟨b,h1,rfl⟩
def isInt(T:Nat→Option TI)(t:TypeId):Option IntKind:=match T t with
 |some i=>match i.k with
  |.int k=>some k
  |_=>none
 |none=>none
theorem zFW{P:Program}{T:Nat→Option TI}(hT:TOk P T){t:TypeId}{k:IntKind}(h:isInt T t=some k):P.underlying t=some (.int k):=by
 unfold isInt at h
 split at h
 ·rename_i i hi
  split at h
  ·rename_i hk
   cases h
   obtain⟨_,_,_,_,_,_,h6⟩:=hT t i hi
   rw[hk]at h6
   exact h6
  ·cases h
 ·cases h
theorem zRl{P:Program}{cx:Cx}{T:Nat→Option TI}(hT:TOk P T){st:St}{o:Oper}{t u:TypeId}{x:Operand}{d:Nat}{k k' k0:IntKind}{n:Int}
  (ho:o.op=.convert t u x) (hdst:o.dst=some d) (hd:st.okD d) (ht:isInt T t=some k0) (hu:isInt T u=some k') (hx:Ql st x=some (.int k n)):
  zCN P cx o st (st.put d (.val false [.lit (.int k' (k'.wrap n))])):=by
 refine zGP hdst hd rfl fun a w Z ω h=>?_
 have h1:=(qY h hx).1
 simp[execOp,ho,h1,convert,run_underlying (zFW hT ht),run_underlying (zFW hT hu),Conv.intToInt]
end Go.TL
