import Derived.Test.YticeglbllcelaaaGreatTlJ
set_option linter.unusedVariables false
namespace Go.TL
theorem setAt_getElem? {α:Type} :∀(cs:List α) (o:Nat) (e:List α),o+cs.length≤e.length→∀j,(setAt o cs e)[j]? =if o≤j∧j<o+cs.length then cs[j-o]? else e[j]?
 |[],o,e,h,j=>by rw[setAt,if_neg (by simp only[List.length_nil];omega)]
 | c :: cs,o,e,h,j => by
  simp only[List.length_cons]at h
  rw[setAt,setAt_getElem? cs (o+1) (e.set o c) (by simp;omega) j]
  by_cases h1:o+1≤j∧j<o+1+cs.length
  ·rw[if_pos h1,if_pos (by simp;omega),show j-o=(j-(o+1))+1 by omega,List.getElem?_cons_succ]
  ·rw[if_neg h1]
   by_cases h2:j=o
   ·subst h2
    rw[if_pos (by simp),List.getElem?_set_self (by omega)]
    simp
   ·rw[List.getElem?_set_ne (Ne.symm h2),if_neg (by simp;omega)]
theorem zKI(off:Nat):∀(l:List Value) (k:Nat) (cells:Array Value),((l.zipIdx k).foldl (fun(cs:Array Value) (x:Value×Nat)=>cs.setIfInBounds (off+x.2) x.1) cells).toList=setAt (off+k) l cells.toList
 |[],k,cells=>rfl
 |v::l,k,cells=>by
  simp only[List.zipIdx_cons,List.foldl_cons,setAt]
  rw[zKI off l (k+1)]
  simp[Nat.add_assoc]
theorem zNN{place:Nat→Option (Nat×Nat)}{cells:Array Value}{i off size:Nat}{v:Value}{rest:List (Nat×Value)}(hp:place i=some (off,size))(hs:v.cells.size=size)(ho:off+size≤cells.size):
  ∃cells',Instr.fill place cells ((i,v)::rest)=Instr.fill place cells' rest∧cells'.toList=setAt off v.cells.toList cells.toList:=by
 refine⟨v.cells.zipIdx.foldl (fun cs (c,j)=>cs.setIfInBounds (off+j) c) cells,?_,?_⟩
 ·simp only[Instr.fill,hp]
  rw[if_neg]
  simp
  omega
 ·rw[←Array.foldl_toList,Array.toList_zipIdx]
  exact zKI off _ 0 cells
theorem Ze.setAt{w:World}{Z:JI}{ω:Own}{U us:List Value}{acc cs:List CV}{off:Nat}(h:Ze w Z ω [2,0] U acc)(hv:Ze w Z ω [2,1] us cs)(ho:off+cs.length≤acc.length):
  Ze w Z (Jt [2,1] 0 cs.length [2,0] off ω) [2,0] (TL.setAt off us U) (TL.setAt off cs acc):=by
 have hl:us.length=cs.length:=hv.1
 refine⟨by rw[QT,QT];exact h.1,fun j c u hc hu=>?_⟩
 rw[setAt_getElem? _ _ _ ho]at hc
 rw[setAt_getElem? _ _ _ (by rw[hl,h.1];exact ho),hl]at hu
 split at hc
 ·rename_i hj
  rw[if_pos hj]at hu
  have hR:=(zEa.zero.2 hv).moved (D:=[2,0]) (o2:=off)
  have:=hR.2 (j-off) c u hc hu
  rw[show off+(j-off)=j by omega]at this
  exact this
 ·rename_i hj
  rw[if_neg hj]at hu
  refine(h.2 j c u hc hu).conv _ (fun b hb=>⟨hb,rfl⟩) fun b r hb=>⟨?_,rfl⟩
  refine qk hb (qS fun j2 r2 h=>?_) (qS fun j2 r2 h=>?_)
  ·simp at h
  ·simp at h;omega
def zLD(T:Nat→Option TI)(fs:List (Nat×Nat×TypeId)):List (Nat×Operand)→St→List CV→Option (List CV×St)
 |[],st,acc=>some (acc,st)
 | (f,x) :: ps,st,acc => match fs[f]? with
  |some (off,sz,ft)=>match Yp T st ft x with
   |some tk=>bif tk.cs.length==sz&&Nat.ble (off+sz) acc.length then zLD T fs ps tk.st (setAt off tk.cs acc)else none
   |none=>none
  |none=>none
theorem Rel.reloc_temp{cx st a w Z ω}(h:Rel cx st a w Z ω)(k k' o n o2:Nat):Rel cx st a w Z (Jt [2,k] o n [2,k'] o2 ω):=
 h.step (fun _=>False) ⟨fun b hb=>⟨hb,rfl⟩,fun r _ b x hb=>⟨qk hb zA9 zA9,rfl⟩,fun _ _=>rfl⟩ (h.inv.reloc _ _ _ _ _) h.nt h.df h.pin
  (fun t sv hm=>.inl ⟨hm,by cases sv<;>simp[SV.apart]⟩) (fun k cs hm=>.inl ⟨hm,fun h=>h⟩)
theorem zI3{T:Nat→Option TI}{cx a w Z}{fs:List (Nat×Nat×TypeId)}{place:Nat→Option (Nat×Nat)}(hp:∀f off sz ft,fs[f]? =some (off,sz,ft)→place f=some (off,sz)):
  ∀(ps:List (Nat×Operand)) (st:St) (acc:List CV) (ω:Own) (cells:Array Value) (acc':List CV) (st':St),Rel cx st a w Z ω→Ze w Z ω [2,0] cells.toList acc→zLD T fs ps st acc=some (acc',st')→
   ∃ω' cells',Rel cx st' a w Z ω'∧Instr.fill place cells (ps.map fun p=>(p.1,a.eval p.2))=some cells'∧Ze w Z ω' [2,0] cells'.toList acc'∧st'.n=st.n
 |[],st,acc,ω,cells,acc',st',h,hv,hs=>by
  simp only[zLD,Option.some.injEq,Prod.mk.injEq]at hs
  obtain⟨rfl,rfl⟩:=hs
  exact⟨ω,cells,h,rfl,hv,rfl⟩
 | (f,x) :: ps,st,acc,ω,cells,acc',st',h,hv,hs => by
  simp only[zLD]at hs
  split at hs
  ·rename_i off sz ft hf
   split at hs
   ·rename_i tk htk
    cases hc:(tk.cs.length==sz&&Nat.ble (off+sz) acc.length)with
    |false=>simp[hc]at hs
    |true=>
     simp only[hc,cond_true]at hs
     have hc':tk.cs.length=sz∧off+sz≤acc.length:=by simpa using hc
     obtain⟨ω1,h1,_,hv1,hn,hoth⟩:=Jv h htk 1
     have hv0:Ze w Z ω1 [2,0] cells.toList acc:=hv.conv _ (fun b hb=>⟨hb,rfl⟩) fun b r hb=>⟨hoth 0 (by omega) b r hb,rfl⟩
     have hcs:(a.eval x).cells.size=sz:=by rw[←Array.length_toList,hv1.1];exact hc'.1
     have hcl:cells.size=acc.length:=by rw[←Array.length_toList];exact hv.1
     obtain⟨cells1,e1,e2⟩:=zNN (rest:=ps.map fun p=>(p.1,a.eval p.2)) (hp f off sz ft hf) hcs (by rw[hcl];exact hc'.2)
     have hacc:=hv0.setAt hv1 (by rw[hc'.1];exact hc'.2)
     rw[←e2]at hacc
     obtain⟨ω2,cells2,k1,k2,k3,k4⟩:=zI3 hp ps tk.st _ _ cells1 acc' st' (h1.reloc_temp 1 0 0 tk.cs.length off) hacc hs
     exact⟨ω2,cells2,k1,by rw[List.map_cons,e1];exact k2,k3,by rw[k4,hn]⟩
   ·cases hs
  ·cases hs
def stS(T:Nat→Option TI)(t:TypeId):Option (List (Nat×Nat×TypeId)×List CV):=match T t with
 |some i=>match i.k with
  |.st fs=>some (fs,i.zero)
  |_=>none
 |none=>none
theorem zKO{P:Program}(w:World):∀(l:List Field) (f:List (Nat×Nat)),l.length=f.length→(∀(j:Nat) x,l[j]? =some x→∃fi,P.info? x.type=some fi∧f[j]? =some (x.offset,fi.size))→
  (l.mapM fun(f:Field)=>(do pure (f.offset,←Go.sizeOf f.type):Sem (Nat×Nat))).run P w=.ok f w
 |[],[],_,_=>rfl
 |x::l,p::f,hl,h=>by
  obtain⟨fi,h1,h2⟩:=h 0 x rfl
  simp only[List.getElem?_cons_zero,Option.some.injEq]at h2
  subst h2
  have ih:=zKO w l f (by simpa using hl) (fun j y hy=>h (j+1) y (by simpa using hy))
  have hs:(Go.sizeOf x.type).run P w=.ok fi.size w:=by simp[Go.sizeOf,typeInfo,h1]
  rw[List.mapM_cons]
  simp only[Sem.run_bind,Sem.run_pure,hs,Result.andThen_ok]
  rw[ih]
  rfl
 |[],_::_,hl,_=>by simp at hl
 |_::_,[],hl,_=>by simp at hl
theorem zRk{P:Program}{cx:Cx}{T:Nat→Option TI}(hT:TOk P T){st st':St}{o:Oper}{t:TypeId}{ps:Array (Nat×Operand)}{d:Nat}{fs:List (Nat×Nat×TypeId)}{zero acc:List CV}
  (ho:o.op=.build t ps) (hdst:o.dst=some d) (ht:stS T t=some (fs,zero)) (hps:zLD T fs ps.toList st zero=some (acc,st')) (hd:st'.okD d):zCN P cx o st (st'.put d (.val true acc)):=by
 unfold stS at ht
 split at ht
 ·rename_i i hi
  split at ht
  ·rename_i fs' hk
   cases ht
   obtain⟨info,h1,h2,h3,⟨z,h4,h5,h6⟩,h7,h8⟩:=hT t i hi
   rw[hk]at h8
   obtain⟨fields,f1,f2,f3⟩:=h8
   intro a w Z ω h
   have hz:(zeroValue t).run P w=.ok z w:=by simp[zeroValue,typeInfo,h1,h4]
   have hv:Ze w Z ω [2,0] z.cells.toList i.zero:=by
    have:=h5.rep (w:=w) (Z:=Z) (ω:=ω)
    exact⟨this.1,fun j c u hc hu=>this.2 j c u hc hu _⟩
   have hpl:(fields.mapM fun(f:Field)=>(do pure (f.offset,←Go.sizeOf f.type):Sem (Nat×Nat))).run P w=.ok (fs.map fun x=>(x.1,x.2.1)).toArray w:=by
    rw[Array.mapM_eq_mapM_toList]
    have:=zKO (P:=P) w fields.toList (fs.map fun x=>(x.1,x.2.1)) (by simp[f2]) (fun j x hx=>?_)
    ·simp only[Sem.run_map,this]
     rfl
    ·have hj:j<fs.length:=by
      have:=(List.getElem?_eq_some_iff.1 hx).1
      simp at this;omega
     obtain⟨f,fi,g1,g2,g3,g4⟩:=f3 j fs[j].1 fs[j].2.1 fs[j].2.2 (List.getElem?_eq_getElem hj)
     have hx':fields[j]? =some x:=by simpa using hx
     rw[hx']at g1
     cases g1
     refine⟨fi,g3,?_⟩
     simp[List.getElem?_map,List.getElem?_eq_getElem hj,g2,g4]
   obtain⟨ω1,cells',k1,k2,k3,k4⟩:=zI3 (place:=fun i=>(fs.map fun x=>(x.1,x.2.1)).toArray[i]?) (fun f off sz ft hf=>by simp[hf]) ps.toList st i.zero ω z.cells acc st' h hv hps
   obtain⟨ω2,h9⟩:=k1.putT hd (v:=.agg cells') (ag:=true) ⟨cells',rfl⟩ k3
   refine⟨.agg cells',w,Z,ω2,.inl ?_,by rw[hdst];exact h9⟩
   simp only[execOp,ho,Instr.build,Sem.run_bind,hz,Result.andThen_ok,run_underlying f1,hpl,Array.toList_map,k2]
   rfl
  ·cases ht
 ·cases ht
def zOX(T:Nat→Option TI)(e sz:Nat):Nat→List (Nat×Operand)→St→Option (List (List CV)×St)
 |_,[],st=>some ([],st)
 | i,(j,x) :: ps,st => bif j == i then (match Yp T st e x with
   |some tk=>bif tk.cs.length==sz then(match zOX T e sz (i+1) ps tk.st with
    |some (es,st')=>some (tk.cs::es,st')
    |none=>none)else none
   |none=>none)else none
theorem zQ2{α:Type} :∀(cs e:List α) (o:Nat),o+cs.length≤e.length→setAt o cs e=e.take o++(cs++e.drop (o+cs.length)):=by
 intro cs e o h
 apply List.ext_getElem?
 intro j
 rw[setAt_getElem? _ _ _ h]
 by_cases h1:j<o
 ·rw[if_neg (by omega),List.getElem?_append_left (by simp;omega),List.getElem?_take_of_lt h1]
 ·have hto:(e.take o).length=o:=by simp;omega
  rw[List.getElem?_append_right (by omega),hto]
  by_cases h2:j<o+cs.length
  ·rw[if_pos (by omega),List.getElem?_append_left (by omega)]
  ·rw[if_neg (by omega),List.getElem?_append_right (by omega),List.getElem?_drop]
   congr 1
   omega
theorem zKT{T:Nat→Option TI}{cx a w Z}{e sz:Nat} :∀(ps:List (Nat×Operand)) (i:Nat) (st:St) (ω:Own) (cells:Array Value) (es:List (List CV)) (st':St),
  Rel cx st a w Z ω→zOX T e sz i ps st=some (es,st')→cells.size=(i+ps.length)*sz→
  ∃ω' cells' vss,Rel cx st' a w Z ω'∧Instr.fill (fun i=>some (i*sz,sz)) cells (ps.map fun p=>(p.1,a.eval p.2))=some cells'∧cells'.toList=cells.toList.take (i*sz)++List.flatten vss∧
   vss.length=es.length∧es.length=ps.length∧(∀(j:Nat) us cs,vss[j]? =some us→es[j]? =some cs→Ze w Z ω' [2,1+i+j] us cs∧us.length=sz)∧st'.n=st.n∧
   (∀k',k'<1+i→∀b y,ω b=some (2::k'::y)→ω' b=some (2::k'::y))
 |[],i,st,ω,cells,es,st',h,hs,hc=>by
  simp only[zOX,Option.some.injEq,Prod.mk.injEq]at hs
  obtain⟨rfl,rfl⟩:=hs
  refine⟨ω,cells,[],h,rfl,?_,rfl,rfl,fun j us cs h=>by simp at h,rfl,fun _ _ _ _ h=>h⟩
  simp only[List.length_nil,Nat.add_zero]at hc
  rw[List.flatten_nil,List.append_nil,List.take_of_length_le (by rw[Array.length_toList,hc];exact Nat.le_refl _)]
 | (j0,x) :: ps,i,st,ω,cells,es,st',h,hs,hc => by
  simp only[zOX]at hs
  cases hj:j0==i with
  |false=>simp[hj]at hs
  | true =>
   have hj':j0=i:=by simpa using hj
   subst hj'
   simp only[hj,cond_true]at hs
   split at hs
   ·rename_i tk htk
    cases hl:tk.cs.length==sz with
    |false=>simp[hl]at hs
    | true =>
     have hl':tk.cs.length=sz:=by simpa using hl
     simp only[hl,cond_true]at hs
     split at hs
     ·rename_i es1 st1 hrows
      cases hs
      obtain⟨ω1,h1,_,hv1,hn,hoth⟩:=Jv h htk (1+j0)
      have hcs:(a.eval x).cells.size=sz:=by rw[←Array.length_toList,hv1.1];exact hl'
      simp only[List.length_cons]at hc
      have hoff:j0*sz+sz≤cells.size:=by rw[hc,Nat.add_mul];have:=Nat.le_mul_of_pos_left sz (show 0<ps.length+1 by omega);omega
      obtain⟨cells1,e1,e2⟩:=zNN (place:=fun i=>some (i*sz,sz)) (rest:=ps.map fun p=>(p.1,a.eval p.2)) rfl hcs hoff
      have hsz1:cells1.size=cells.size:=by rw[←Array.length_toList,e2,QT,Array.length_toList]
      obtain⟨ω2,cells2,vss,k1,k2,k3,k4,k5,k6,k7,k8⟩:=zKT ps (j0+1) tk.st ω1 cells1 es1 st' h1 hrows (by rw[hsz1,hc];congr 1;omega)
      refine⟨ω2,cells2,(a.eval x).cells.toList::vss,k1,by rw[List.map_cons,e1];exact k2,?_,by simp[k4],by simp[k5],fun j us cs hus hcs'=>?_,by rw[k7,hn],fun k' hk' b y hb=>?_⟩
      ·rw[k3,e2]
       have hlv:(a.eval x).cells.toList.length=sz:=by rw[Array.length_toList];exact hcs
       rw[zQ2 _ _ _ (by rw[hlv,Array.length_toList];exact hoff),List.flatten_cons,←List.append_assoc,←List.append_assoc,hlv]
       congr 1
       have ht:(cells.toList.take (j0*sz)).length=j0*sz:=by simp;omega
       rw[List.take_append_of_le_length (by simp[hcs];rw[Nat.add_mul];omega)]
       rw[List.take_of_length_le (by simp[hcs];rw[Nat.add_mul];omega)]
      ·cases j with
       |zero=>
        simp only[List.getElem?_cons_zero,Option.some.injEq]at hus hcs'
        subst hus;subst hcs'
        refine⟨?_,by rw[Array.length_toList];exact hcs⟩
        exact hv1.conv _ (fun b hb=>⟨hb,rfl⟩) fun b r hb=>⟨k8 (1+j0) (by omega) b r hb,rfl⟩
       |succ j=>
        simp only[List.getElem?_cons_succ]at hus hcs'
        have:=k6 j us cs hus hcs'
        rw[show 1+j0+(j+1)=1+(j0+1)+j by omega]
        exact this
      ·exact k8 k' (by omega) b y (hoth k' (by omega) b y hb)
     ·cases hs
   ·cases hs
theorem zKH{α:Type}{sz:Nat} :∀(l:List (List α)),(∀x∈l,x.length=sz)→∀i j:Nat,j<sz→l.flatten[i*sz+j]? =(l[i]?).bind (·[j]?)
 |[],h,i,j,hj=>by simp
 |x::l,h,0,j,hj=>by
  have hx:x.length=sz:=h x (by simp)
  rw[Nat.zero_mul,Nat.zero_add,List.flatten_cons,List.getElem?_append_left (by omega)]
  rfl
 |x::l,h,i+1,j,hj=>by
  have hx:x.length=sz:=h x (by simp)
  rw[List.flatten_cons,List.getElem?_append_right (by rw[hx,Nat.add_mul];omega),hx]
  have:=zKH l (fun y hy=>h y (by simp[hy])) i j hj
  rw[show(i+1)*sz+j-sz=i*sz+j by rw[Nat.add_mul];omega]
  simpa using this
theorem Rel.newSlice{cx st a w Z ω}(h:Rel cx st a w Z ω){d:Nat}(hd:st.okD d){es:List (List CV)}{vss:List (List Value)}{sz:Nat}{cur:Array Value}(T:TypeId)(hcur:cur.toList=vss.flatten)
  (hl:vss.length=es.length) (hR:∀(j:Nat) us cs,vss[j]? =some us→es[j]? =some cs→Ze w Z ω [2,1+j] us cs∧us.length=sz) (hm:es.length≤maxLen):
  ∃ω',Rel cx (st.put d (.val false [.sl true sz es])) (a.put (some d) (.slice (some ⟨w.heap.size,0,none⟩) es.length es.length)) (w.alloc (.cells cur T)) Z ω':=by
 have hd':d<a.tmps.size:=by rw[h.nt];exact hd.2
 have hlt:∀b p,ω b=some p→b≠w.heap.size:=fun b p hb=>by have:=h.inv.lt b p hb;omega
 have hheap:∀b,b<w.heap.size→(w.alloc (.cells cur T)).heap[b]? =w.heap[b]? :=fun b hb=>heap_alloc_old w _ hb
 have hvs:∀x∈vss,x.length=sz:=by
  intro x hx
  obtain⟨j,hj⟩:=List.mem_iff_getElem?.1 hx
  have hjl:j<es.length:=by rw[←hl];exact(List.getElem?_eq_some_iff.1 hj).1
  exact(hR j x es[j] hj (List.getElem?_eq_getElem hjl)).2
 have hes:∀e∈es,e.length=sz:=by
  intro e he
  obtain⟨j,hj⟩:=List.mem_iff_getElem?.1 he
  have hjl:j<vss.length:=by rw[hl];exact(List.getElem?_eq_some_iff.1 hj).1
  have:=hR j vss[j] e (List.getElem?_eq_getElem hjl) hj
  rw[←this.1.1,this.2]
 have hel:∀i j c,elC es i j=some c→∃us u,vss[i]? =some us∧us[j]? =some u∧cur[i*sz+j]? =some u∧Qg w Z ω [2,1+i,j] u c∧i<es.length:=by
  intro i j c hij
  obtain⟨e,g1,g2⟩:=JZ hij
  have hil:i<es.length:=(List.getElem?_eq_some_iff.1 g1).1
  have hil':i<vss.length:=by omega
  have hr:=hR i vss[i] e (List.getElem?_eq_getElem hil') g1
  obtain⟨u,hu,hRu⟩:=hr.1.get g2
  have hj:j<sz:=by rw[←hr.2];exact(List.getElem?_eq_some_iff.1 hu).1
  refine⟨vss[i],u,List.getElem?_eq_getElem hil',hu,?_,by simpa using hRu,hil⟩
  rw[←Array.getElem?_toList,hcur,zKH vss hvs i j hj,List.getElem?_eq_getElem hil']
  exact hu
 refine⟨grow w.heap.size [0,d,0] (Jt [2] 1 es.length [0,d,0] 0 ω),?_⟩
 have hro:∀r,r≠zn.slot d→∀b x,ω b=some (r.path++x)→grow w.heap.size [0,d,0] (Jt [2] 1 es.length [0,d,0] 0 ω) b=some (r.path++x):=by
  intro r h1 b x hb
  refine zFC (qk hb (qS fun j r' h=>?_) ?_) (hlt b _ hb) ?_
  ·cases r<;>simp[zn.path]at h
  ·have:=Y2 (r:=.slot d) h1 (S:=[0]) (o:=0) (n:=es.length) (x:=x)
   exact this
  ·intro e
   have:=Zw (r:=r) (s:=.slot d) (x:=x) (y:=[0]) (by rw[e];rfl)
   exact h1 this.1
 refine h.put hd ((h.inv.reloc _ _ _ _ _).alloc _ _ _) (fun b hb=>⟨hb,hheap b (h.inv.zlt b hb)⟩) (fun r hr b x hb=>⟨hro r hr b x hb,hheap b (h.inv.lt b _ hb)⟩) ⟨rfl,rfl,fun j c u hc hu=>?_⟩
 cases j with
 |succ j=>simp at hc
 | zero =>
  simp only[List.getElem?_cons_zero,Option.some.injEq]at hc
  subst hc
  have hu':u=.slice (some ⟨w.heap.size,0,none⟩) es.length es.length:=by
   have:(some (Value.slice (some ⟨w.heap.size,0,none⟩) es.length es.length))=some u:=hu
   exact(Option.some.inj this).symm
  subst hu'
  refine .own _ w.heap.size es.length sz es (fun i j=>(cur[i*sz+j]?).getD undef) cur T zHa (heap_alloc_new w _) (Nat.le_refl _) hm ?_ hes ?_ ?_
  ·rw[←Array.length_toList,hcur]
   have:∀(l:List (List Value)),(∀x∈l,x.length=sz)→l.flatten.length=l.length*sz:=by
    intro l
    induction l with
    |nil=>intro _;simp
    |cons x l ih=>intro h;rw[List.flatten_cons,List.length_append,h x (by simp),ih (fun y hy=>h y (by simp[hy])),List.length_cons,Nat.add_mul];omega
   rw[this vss hvs,hl]
  ·intro i j c hij
   obtain⟨us,u,_,_,hc,_⟩:=hel i j c hij
   rw[hc];rfl
  ·intro i j c hij
   obtain⟨us,u,_,_,hc,hRu,hil⟩:=hel i j c hij
   rw[hc]
   refine hRu.conv _ (fun b hb=>⟨hb,hheap b (h.inv.zlt b hb)⟩) fun b r hb=>⟨?_,hheap b (h.inv.lt b _ hb)⟩
   refine zFC ?_ (hlt b _ hb) (by simp)
   have:=zBq (S:=[2]) (D:=[0,d,0]) (o:=1) (n:=es.length) (o2:=0) (ω:=ω) (b:=b) (j:=i) (r:=j::r) (by rw[hb];rfl) hil
   rw[this];simp
theorem zMv{P:Program}{cx:Cx}{T:Nat→Option TI}(hT:TOk P T){st st':St}{o:Oper}{t e:TypeId}{len:Nat}{ps:Array (Nat×Operand)}{d:Nat}{ie:TI}{es:List (List CV)}
  (ho:o.op=.buildSlice t len ps) (hdst:o.dst=some d) (ht:zCO T t=some e) (he:T e=some ie) (hps:zOX T e ie.size 0 ps.toList st=some (es,st')) (hlen:ps.toList.length=len) (hd:st'.okD d)
  (hbig:len*ie.size≤16777216) (hlm:len≤maxLen):zCN P cx o st (st'.put d (.val false [.sl true ie.size es])):=by
 intro a w Z ω h
 obtain⟨info,h1,h2,h3,⟨z,h4,h5,h6⟩,h7,h8⟩:=hT e ie he
 have hz:(zeroValue e).run P w=.ok z w:=by simp[zeroValue,typeInfo,h1,h4]
 have hu:=zCR hT ht
 have hs:=(hT e ie he).sizeOf w
 have key:∀zs:Array Value,∃cells' ω',Instr.fill (fun i=>some (i*ie.size,ie.size)) ((Array.range (len*ie.size)).map (fun x=>zs[x%zs.size]!)) (ps.map fun(p:Nat×Operand)=>(p.1,a.eval p.2)).toList=some cells'∧
   Rel cx (st'.put d (.val false [.sl true ie.size es])) (a.put (some d) (.slice (some ⟨w.heap.size,0,none⟩) len len)) (w.alloc (.cells cells' e)) Z ω':=by
  intro zs
  obtain⟨ω1,cells',vss,k1,k2,k3,k4,k5,k6,k7,k8⟩:=zKT ps.toList 0 st ω ((Array.range (len*ie.size)).map (fun x=>zs[x%zs.size]!)) es st' h hps (by simp[←hlen])
  simp only[Nat.zero_mul,List.take_zero,List.nil_append]at k3
  have hle:es.length=len:=by rw[k5,hlen]
  obtain⟨ω2,h9⟩:=k1.newSlice hd (sz:=ie.size) e k3 k4 (fun j us cs h1 h2=>by have:=k6 j us cs h1 h2;simpa using this) (by rw[hle];exact hlm)
  rw[hle]at h9
  exact⟨cells',ω2,by rw[Array.toList_map];exact k2,h9⟩
 have hb:¬(len*ie.size>2^24):=by omega
 by_cases h0:len*ie.size=0
 ·obtain⟨cells',ω',r1,r2⟩:=key #[]
  refine⟨_,_,Z,ω',.inl ?_,by rw[hdst];exact r2⟩
  simp only[execOp,ho,Instr.buildSlice,Sem.run_bind,run_underlying hu,Result.andThen_ok,hs,if_neg hb,if_pos h0,Sem.run_pure,r1]
  simp[newRow]
 ·obtain⟨cells',ω',r1,r2⟩:=key z.cells
  refine⟨_,_,Z,ω',.inl ?_,by rw[hdst];exact r2⟩
  simp only[execOp,ho,Instr.buildSlice,Sem.run_bind,run_underlying hu,Result.andThen_ok,hs,if_neg hb,if_neg h0,hz,Sem.run_pure,r1]
  simp[newRow]
end Go.TL
