import Derived.Test.YticeglbllcelaaaGreatTlI
set_option linter.unusedVariables false
namespace Go.TL
theorem Ze.ones{w Z ω p us cs}(h:Ze w Z ω p us cs):∀u∈us,u.oneCell'=true:=by
  intro u hu
  obtain⟨j,hj⟩:=List.mem_iff_getElem?.1 hu
  have hjl:j<cs.length:=by rw[←h.1];exact(List.getElem?_eq_some_iff.1 hj).1
  exact(h.2 j cs[j] u (List.getElem?_eq_getElem hjl) hj).one
theorem zRo{P:Program}{cx:Cx}{T:Nat→Option TI}(hT:TOk P T){st st':St}{o:Oper}{t:TypeId}{ad x:Operand}{tk:Tk}{s:zO5}{i:TI}
    (ho:o.op=.store t ad x) (hdst:o.dst=none) (ht:T t=some i) (hx:Yp T st t x=some tk) (hl:tk.cs.length=i.size) (ha:adS tk.st ad=some s) (hle:s.o+i.size≤s.e.length)
    (hm:tk.st.modR (zZ tk.cs) s.r s.q (setAt s.o tk.cs)=some st'):zCN P cx o st st':=by
  intro a w Z ω h
  obtain⟨ω1,h1,hs,hv,hn,_⟩:=Jv h hx 0
  obtain⟨b,cur,T',us0,row,e1,e2,e3,e4,e5,e6,e7,e8⟩:=zEy h1 ha
  obtain⟨us,hus,husl⟩:=h1.row e5
  have hvl:(a.eval x).cells.toList.length=i.size:=by rw[hv.1,hl]
  obtain⟨ω2,i1,i2,i3,i4,i5,i6⟩:=zHZ (cx:=cx) e4 (a.eval x).cells.toList tk.cs 0 w ω1 us row s.e s.o b h1.inv hus e6 (by rw[hl];exact hle) e2 (zEa.zero.2 hv)
  have hcells:∀j,j<(a.eval x).cells.toList.length→(w.cell? ⟨b,ZH s.q*s.e.length+s.o+0+j,none⟩).isSome=true:=by
    intro j hj
    rw[hvl]at hj
    obtain⟨u,g1,_⟩:=e8 (s.o+j) s.e[s.o+j] (List.getElem?_eq_getElem (by omega))
    rw[zDH e3,show ZH s.q*s.e.length+s.o+0+j=ZH s.q*s.e.length+(s.o+j) by omega,g1]
    rfl
  have hfroz:∀k,w.frozen? ⟨b,k,none⟩=false:=by
    intro k
    simp only[World.frozen?,e3]
    simp
  have hrun:=run_storeCells_cells (P:=P) b (ZH s.q*s.e.length+s.o) (a.eval x).cells.toList 0 w hcells (fun j _=>hfroz _) hv.ones
  refine⟨undef,w.setCells b (ZH s.q*s.e.length+s.o) (a.eval x).cells.toList,Z,ω2,.inr ⟨?_,rfl⟩,?_⟩
  · have hsz:=(hT t i ht).sizeOf w
    have hsz2:(a.eval x).cells.size=i.size:=by rw[←Array.length_toList];exact hvl
    simp only[Nat.add_zero]at hrun
    simp only[execOp,ho,Instr.storeAt,e1,Instr.sureAddr,storeVar,Sem.run_bind,Sem.run_pure,Result.andThen_ok,hsz,hsz2]
    simp[hrun]
  · rw[hdst]
    show Rel cx st' a _ Z ω2
    refine h1.modR hm e5 (Ji e6 (QT _ _ _)) ?_ ⟨us,i2,husl⟩ i1 (fun b hb=>⟨hb,i3 b hb⟩) ?_ i6 ?_
    · intro cells hc q' hq'
      rw[hc,hq']at e6
      simp only[zAM,List.getElem?_cons_zero]at e6
      exact Ji e6 (QT _ _ _)
    · intro r' hr' b0 x0 hb0
      refine⟨i5 b0 _ hb0 zA9 (Y2 hr'),i4 b0 _ hb0 (fun e=>hr' (Zw e).1)⟩
    · intro k0 hk0 b0 hb0
      refine i5 b0 _ hb0 (qS fun j2 r3 h=>by simp at h) (qS fun j2 r3 h=>?_)
      rw[hk0]at h
      have hl2:=congrArg List.length h
      cases hq:s.q with
      |nil=>exact absurd hq e4
      |cons y q=>rw[hq]at hl2;obtain⟨y1,y2⟩:=y;simp[qj,zn.path]at hl2
def grow(B:Nat)(p:Zu)(ω:Own):Own:=fun b=>if b=B then some p else match ω b with
  |some p'=>if p'=p then none else some p'
  |none=>none
theorem zHa{B:Nat}{p:Zu}{ω:Own} :grow B p ω B=some p:=by simp[grow]
theorem zFC{B b:Nat}{p p':Zu}{ω:Own}(h:ω b=some p')(hb:b≠B)(hp:p'≠p):grow B p ω b=some p':=by simp[grow,hb,h,hp]
theorem zGB{B b:Nat}{p p':Zu}{ω:Own}(h:grow B p ω b=some p'):(b=B∧p'=p)∨(b≠B∧ω b=some p'∧p'≠p):=by
  unfold grow at h
  split at h
  · rename_i hb;cases h;exact .inl ⟨hb,rfl⟩
  · rename_i hb
    split at h
    · rename_i p2 h2
      split at h
      · cases h
      · rename_i hne;cases h;exact .inr ⟨hb,h2,hne⟩
    · cases h
theorem Inv.alloc{cx w Z ω}(h:Inv cx w Z ω)(c:Array Value)(T:TypeId)(p:Zu):Inv cx (w.alloc (.cells c T)) Z (grow w.heap.size p ω):=by
  have hsz:(w.alloc (.cells c T)).heap.size=w.heap.size+1:=by
    show(w.heap.push _).size= _
    simp
  refine { os:=h.os,tape:=h.tape,output:=h.output,size:=by rw[hsz];have:=h.size;omega,keep:=fun b hb h0=>?_,zsub:=h.zsub,zold:=h.zold,wold:=fun b p' hb hlt=>?_,disj:=fun b p' hz hb=>?_,inj:=fun b b' p' h1 h2=>?_,
           lt:=fun b p' hb=>?_,zlt:=fun b hb=>by rw[hsz];have:=h.zlt b hb;omega }
  · rw[heap_alloc_old w _ (by have:=h.size;omega)];exact h.keep b hb h0
  · rcases zGB hb with⟨rfl,_⟩|⟨_,h2,_⟩
    · have:=h.size;omega
    · exact h.wold b p' h2 hlt
  · rcases zGB hb with⟨rfl,_⟩|⟨_,h2,_⟩
    · have:=h.zlt _ hz;omega
    · exact h.disj b p' hz h2
  · rcases zGB h1 with⟨rfl,e1⟩|⟨g1,g2,g3⟩<;>rcases zGB h2 with⟨rfl,e2⟩|⟨k1,k2,k3⟩
    · rfl
    · exact absurd e1 k3
    · exact absurd e2 g3
    · exact h.inj _ _ _ g2 k2
  · rw[hsz]
    rcases zGB hb with⟨rfl,_⟩|⟨_,h2,_⟩
    · omega
    · have:=h.lt b p' h2;omega
def St.newBox(st:St)(d:Nat)(cs:List CV):St:=
  { st with s:=(d,.adr (.box d) [(0,0)] cs.length 0)::zEQ (.slot d) (zEQ (.box d) st.s),b:=(d,cs)::zHr (.box d) st.b }
theorem Rel.newBox{cx st a w Z ω}(h:Rel cx st a w Z ω){d:Nat}(hd:st.okD d){us:List Value}{cs:List CV}(hv:Ze w Z ω [2,0] us cs)(T:TypeId):
    ∃ω',Rel cx (st.newBox d cs) (a.put (some d) (.pointer (some ⟨w.heap.size,0,none⟩))) (w.alloc (.cells us.toArray T)) Z ω':=by
  have hd':d<a.tmps.size:=by rw[h.nt];exact hd.2
  have hlt:∀b p,ω b=some p→b≠w.heap.size:=fun b p hb=>by have:=h.inv.lt b p hb;omega
  have hheap:∀b,b<w.heap.size→(w.alloc (.cells us.toArray T)).heap[b]? =w.heap[b]? :=fun b hb=>heap_alloc_old w _ hb
  have hro:∀r,r≠zn.slot d→r≠zn.box d→∀b x,ω b=some (r.path++x)→grow w.heap.size [1,d,0] (Jt [2,0] 0 cs.length [1,d,0,0] 0 ω) b=some (r.path++x):=by
    intro r h1 h2 b x hb
    refine zFC (qk hb zA9 ?_) (hlt b _ hb) ?_
    · have:=Y2 (r:=.box d) h2 (S:=[0,0]) (o:=0) (n:=cs.length) (x:=x)
      exact this
    · intro e
      have:=Zw (r:=r) (s:=.box d) (x:=x) (y:=[0]) (by rw[e];rfl)
      exact h2 this.1
  refine⟨grow w.heap.size [1,d,0] (Jt [2,0] 0 cs.length [1,d,0,0] 0 ω),?_⟩
  refine h.step (fun r=>r=.slot d∨r=.box d) ⟨fun b hb=>⟨hb,hheap b (h.inv.zlt b hb)⟩,fun r hr b x hb=>⟨hro r (fun e=>hr (.inl e)) (fun e=>hr (.inr e)) b x hb,hheap b (h.inv.lt b _ hb)⟩,
    fun t ht=>Zq (fun e=>ht (.inl (by rw[e])))⟩ ((h.inv.reloc _ _ _ _ _).alloc _ _ _) (by rw[size_put];exact h.nt) (by rw[zE3];exact h.df) (fun t ht=>by rw[Zq (by have h1:=hd.1;have h0:t<st.lo:=ht;omega)];exact h.pin t ht) (fun t sv hm=>?_) (fun k cs' hm=>?_)
  · rcases List.mem_cons.1 hm with e|hm
    · cases e
      right
      rw[Yq hd']
      exact⟨w.heap.size,zHa,by simp[ZH]⟩
    · left
      have h1:=QS hm
      have h2:=QS h1.1
      refine⟨h2.1,?_⟩
      have a1:=QQ h1.2
      have a2:=QQ h2.2
      cases sv<;>simp only[SV.apart]at a1 a2⊢
      case ref=>exact⟨fun e=>e.elim a1.1 a2.1,fun e=>e.elim a1.2 a2.2⟩
      case adr=>exact⟨fun e=>e.elim a1.1 a2.1,fun e=>e.elim a1.2 a2.2⟩
      all_goals exact fun e=>e.elim a1 a2
  · rcases List.mem_cons.1 hm with e|hm
    · cases e
      right
      refine⟨.slice (some ⟨w.heap.size,0,none⟩) 1 1,rfl,fun j c u hc hu=>?_⟩
      cases j with
      |succ j=>simp at hc
      | zero =>
        simp only[List.getElem?_cons_zero,Option.some.injEq]at hc hu
        subst hc;subst hu
        have hel:∀i j c,elC [cs] i j=some c→i=0∧cs[j]? =some c:=by
          intro i j c h
          obtain⟨e,g1,g2⟩:=JZ h
          cases i with
          |zero=>simp at g1;subst g1;exact⟨rfl,g2⟩
          |succ i=>simp at g1
        refine .own _ w.heap.size 1 cs.length [cs] (fun _ j=>us.getD j undef) us.toArray T zHa (heap_alloc_new w _) (Nat.le_refl _) (by simp[maxLen]) (by simp[hv.1]) (by simp) ?_ ?_
        · intro i j c hij
          obtain⟨rfl,hcj⟩:=hel i j c hij
          obtain⟨u,hu,_⟩:=hv.get hcj
          simp[hu]
        · intro i j c hij
          obtain⟨rfl,hcj⟩:=hel i j c hij
          obtain⟨u,hu,hR⟩:=hv.get hcj
          have hjl:j<cs.length:=(List.getElem?_eq_some_iff.1 hcj).1
          have:us.getD j undef=u:=by simp[List.getD,hu]
          rw[this]
          refine hR.conv _ (fun b hb=>⟨hb,hheap b (h.inv.zlt b hb)⟩) fun b r hb=>⟨?_,hheap b (h.inv.lt b _ hb)⟩
          refine zFC ?_ (hlt b _ hb) (by simp)
          have:=zBq (S:=[2,0]) (D:=[1,d,0,0]) (o:=0) (n:=cs.length) (o2:=0) (ω:=ω) (b:=b) (j:=j) (r:=r) (by rw[hb];simp) hjl
          rw[this];simp
    · left
      have:=zBB hm
      exact⟨this.1,fun e=>e.elim (fun e=>by cases e) (fun e=>ZI this.2 e)⟩
theorem zTl{P:Program}{cx:Cx}{T:Nat→Option TI}{st:St}{o:Oper}{t:TypeId}{x:Operand}{d:Nat}{tk:Tk}
    (ho:o.op=.box t x) (hdst:o.dst=some d) (hx:Yp T st t x=some tk) (hd:tk.st.okD d):zCN P cx o st (tk.st.newBox d tk.cs):=by
  intro a w Z ω h
  obtain⟨ω1,h1,hs,hv,hn,_⟩:=Jv h hx 0
  obtain⟨ω2,h2⟩:=h1.newBox hd hv t
  refine⟨_,_,Z,ω2,.inl ?_,by rw[hdst];exact h2⟩
  simp[execOp,ho,Instr.box,newVar,newRow]
theorem zRj{P:Program}{cx:Cx}{T:Nat→Option TI}(hT:TOk P T){st:St}{o:Oper}{t:TypeId}{d:Nat}{i:TI}
    (ho:o.op=.alloc t) (hdst:o.dst=some d) (ht:T t=some i) (hd:st.okD d):zCN P cx o st (st.newBox d i.zero):=by
  intro a w Z ω h
  obtain⟨info,h1,h2,h3,⟨z,h4,h5,h6⟩,_⟩:=hT t i ht
  have hv:Ze w Z ω [2,0] z.cells.toList i.zero:=by
    have:=h5.rep (w:=w) (Z:=Z) (ω:=ω)
    exact⟨this.1,fun j c u hc hu=>this.2 j c u hc hu _⟩
  obtain⟨ω2,h7⟩:=h.newBox hd hv t
  refine⟨_,_,Z,ω2,.inl ?_,by rw[hdst];exact h7⟩
  have hz:(zeroValue t).run P w=.ok z w:=by simp[zeroValue,typeInfo,h1,h4]
  simp[execOp,ho,Instr.alloc,hz,newVar,newRow]
theorem Rel.putT{cx st a w Z ω}(h:Rel cx st a w Z ω){d:Nat}(hd:st.okD d){v:Value}{ag:Bool}{cs:List CV}(hs:shp ag v)(hv:Ze w Z ω [2,0] v.cells.toList cs):
    ∃ω',Rel cx (st.put d (.val ag cs)) (a.put (some d) v) w Z ω':=by
  refine⟨Jt [2,0] 0 cs.length [0,d] 0 ω,h.put hd (h.inv.reloc _ _ _ _ _) (fun b hb=>⟨hb,rfl⟩) (fun r hr b x hb=>⟨?_,rfl⟩) ⟨hs,zEa.zero.1 (zEa.zero.2 hv).moved⟩⟩
  refine qk hb zA9 ?_
  have:=Y2 (r:=.slot d) hr (S:=[]) (o:=0) (n:=cs.length) (x:=x)
  simpa [zn.path]using this
theorem zRn{P:Program}{cx:Cx}{T:Nat→Option TI}{st:St}{o:Oper}{x:Operand}{d:Nat}{tk:Tk}(ho:o.op=.move x∨o.op=.assign x)(hdst:o.dst=some d)
    (hx:Yp T st o.type x=some tk) (hd:tk.st.okD d):zCN P cx o st (tk.st.put d (.val tk.ag tk.cs)):=by
  intro a w Z ω h
  obtain⟨ω1,h1,hs,hv,hn,_⟩:=Jv h hx 0
  obtain⟨ω2,h2⟩:=h1.putT hd hs hv
  refine⟨a.eval x,w,Z,ω2,.inl ?_,by rw[hdst];exact h2⟩
  rcases ho with ho|ho<;>simp[execOp,ho]
def St.extr(st:St)(d t k:Nat)(ag:Bool)(cs:List CV)(vs:List (Bool×List CV)):St:=
  { st with s:=(d,.val ag cs)::(t,.tup (vs.set k (ag,List.replicate cs.length .dead)))::zEQ (.slot d) (zEQ (.slot t) st.s) }
theorem zPm{P:Program}{cx:Cx}{st:St}{o:Oper}{t d k:Nat}{vs:List (Bool×List CV)}{ag:Bool}{cs:List CV}
    (ho:o.op=.extract (.tmp t) k) (hdst:o.dst=some d) (hd:st.okD d) (hx:lk st.s t=some (.tup vs)) (hk:vs[k]? =some (ag,cs)) (hdt:d≠t):
    zCN P cx o st (st.extr d t k ag cs vs):=by
  intro a w Z ω h
  obtain⟨us,g1,g2,g3⟩:=h.hs t _ (zw hx)
  obtain⟨u,k1,k2,k3⟩:=g3 k ag cs hk
  have hrun:(execOp a.eval o).run P w=.ok (.value u) w:=by
    have he:a.eval (.tmp t)=.tuple us:=g1
    simp[execOp,ho,Instr.extract,he,k1]
  have hm:Ze w Z (Jt [0,t,k] 0 cs.length [0,d] 0 ω) [0,d] u.cells.toList cs:=zEa.zero.1 (zEa.zero.2 k3).moved
  have hd':d<a.tmps.size:=by rw[h.nt];exact hd.2
  refine⟨u,w,Z,Jt [0,t,k] 0 cs.length [0,d] 0 ω,.inl hrun,?_⟩
  rw[hdst]
  refine h.step (fun r=>r=.slot d∨r=.slot t) ⟨fun b hb=>⟨hb,rfl⟩,fun r hr b x hb=>⟨?_,rfl⟩,fun t' ht'=>Zq (fun e=>ht' (.inl (by rw[e])))⟩ (h.inv.reloc _ _ _ _ _) (by rw[size_put];exact h.nt) (by rw[zE3];exact h.df) (fun t ht=>by rw[Zq (by have h1:=hd.1;have h0:t<st.lo:=ht;omega)];exact h.pin t ht)
    (fun t' sv hm'=>?_) (fun k' cs' hm'=>.inl ⟨hm',fun e=>e.elim (fun e=>by cases e) (fun e=>by cases e)⟩)
  · refine qk hb ?_ ?_
    · have:=Y2 (r:=.slot t) (fun e=>hr (.inr e)) (S:=[k]) (o:=0) (n:=cs.length) (x:=x)
      exact this
    · have:=Y2 (r:=.slot d) (fun e=>hr (.inl e)) (S:=[]) (o:=0) (n:=cs.length) (x:=x)
      simpa [zn.path]using this
  · rcases List.mem_cons.1 hm' with e|hm'
    · cases e
      right
      rw[Yq hd']
      exact⟨k2,hm⟩
    · rcases List.mem_cons.1 hm' with e|hm'
      · cases e
        right
        rw[Zq (fun e=>hdt e.symm)]
        refine⟨us,g1,by rw[List.length_set];exact g2,fun k' ag' cs' hk'=>?_⟩
        by_cases hkk:k'=k
        · subst hkk
          rw[List.getElem?_set_self (List.getElem?_eq_some_iff.1 hk).1]at hk'
          cases hk'
          refine⟨u,k1,k2,by rw[List.length_replicate];exact k3.1,fun j c u' hc hu=>?_⟩
          rw[List.getElem?_replicate]at hc
          split at hc
          · cases hc
            exact .dead _ _ (k3.ones u' (List.mem_of_getElem? hu))
          · cases hc
        · rw[List.getElem?_set_ne (Ne.symm hkk)]at hk'
          obtain⟨u',f1,f2,f3⟩:=g3 k' ag' cs' hk'
          refine⟨u',f1,f2,f3.conv _ (fun b hb=>⟨hb,rfl⟩) fun b r hb=>⟨?_,rfl⟩⟩
          refine qk hb (qS fun j r' h=>?_) (qS fun j r' h=>?_)
          · simp at h;exact absurd h.1 hkk
          · simp at h;exact absurd h.1.symm hdt
      · left
        have h1:=QS hm'
        have h2:=QS h1.1
        refine⟨h2.1,?_⟩
        have a1:=QQ h1.2
        have a2:=QQ h2.2
        cases sv<;>simp only[SV.apart]at a1 a2⊢
        case ref=>exact⟨fun e=>e.elim a1.1 a2.1,fun e=>e.elim a1.2 a2.2⟩
        case adr=>exact⟨fun e=>e.elim a1.1 a2.1,fun e=>e.elim a1.2 a2.2⟩
        all_goals exact fun e=>e.elim a1 a2
end Go.TL
