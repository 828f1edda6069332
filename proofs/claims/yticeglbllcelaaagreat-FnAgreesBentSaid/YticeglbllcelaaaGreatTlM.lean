import Derived.Test.YticeglbllcelaaaGreatTlL
set_option linter.unusedVariables false
namespace Go.TL
theorem Qg.read{w Z ω p v own sz es}(h:Qg w Z ω p v (.sl own sz es)):∃(ad:Option Addr) (cap:Nat) (us:Nat→Nat→Value),v=.slice ad es.length cap∧es.length≤cap∧cap≤maxLen∧(ad=none→es=[]∧cap=0)∧(es≠ []→∀A,ad=some A→A.spot=none)∧(∀e∈es,e.length=sz)∧
  (∀A,ad=some A→∀i j c,elC es i j=some c→w.cell? ⟨A.block,A.off+(i*sz+j),none⟩=some (us i j))∧(∀i j c,elC es i j=some c→Qg w Z ω (p++[i,j]) (us i j) c)∧
  (own=false→(es≠ []→∀A,ad=some A→Z A.block)∧∀i j c,elC es i j=some c→c.flat=true):=by
 cases h with
 |nil=>
  refine⟨none,0,fun _ _=>undef,rfl,Nat.le_refl _,by simp[maxLen],fun _=>⟨rfl,rfl⟩,fun _ A h=>(by cases h),fun e he=>(by cases he),fun A h=>(by cases h),fun i j c h=>?_,fun _=>⟨fun _ A h=>(by cases h),fun i j c h=>?_⟩⟩
  ·simp[elC]at h
  ·simp[elC]at h
 |fro _ a cap _ _ us hs hZ hcap hm hsz hf hc hr=>
  exact⟨some a,cap,us,rfl,hcap,hm,fun h=>(by cases h),fun hne A h=>(by cases h;exact hs hne),hsz,fun A h=>(by cases h;exact hc),hr,fun _=>⟨fun hne A h=>(by cases h;exact hZ hne),hf⟩⟩
 |own _ b cap _ _ us cur T hω hb hcap hm hcs hsz hc hr=>
  refine⟨some ⟨b,0,none⟩,cap,us,rfl,hcap,hm,fun h=>(by cases h),fun _ A h=>(by cases h;rfl),hsz,fun A h=>?_,hr,fun h=>(by cases h)⟩
  cases h
  intro i j c hij
  rw[zDH hb,Nat.zero_add]
  exact hc i j c hij
theorem Ze.one_inv{w Z ω p us c}(h:Ze w Z ω p us [c]):∃u,us=[u]∧Qg w Z ω (p++[0]) u c:=by
 obtain⟨h1,h2⟩:=h
 match us,h1 with
 |[u],_=>exact⟨u,rfl,h2 0 c u rfl rfl⟩
theorem zOL{v:Value}(h:shp false v):v.cells.toList=[v]:=ZC h
theorem zPk{P:Program}{cx:Cx}{T:Nat→Option TI}(hT:TOk P T){st:St}{o:Oper}{t e:TypeId}{ie:TI}{x y:Operand}{d:Nat}{tk:Tk}{es:List (List CV)}{s:zFp}
  (ho:o.op=.call { callee:=.builtin .append,args:= #[x,y],argTypes:= #[t,t] }) (hdst:o.dst=some d) (ht:zCO T t=some e) (he:T e=some ie) (hpos:0<ie.size)
  (hx:Yp T st t x=some tk) (hag:tk.ag=false) (hcs:tk.cs=[.sl true ie.size es]) (hd:tk.st.okD d) (hy:slS tk.st y=some s) (hsz:s.sz=ie.size) (hflat:∀e∈s.es,zZ e=true)
  (hm:es.length+s.es.length≤maxLen) (hb:(es.length+s.es.length)*ie.bytes≤140737488355328):zCN P cx o st (tk.st.put d (.val false [.sl true ie.size (es++s.es)])):=by
 intro a w Z ω h
 obtain⟨ω1,h1,hs,hv,hn,_⟩:=Jv h hx 0
 rw[hag]at hs
 rw[hcs,zOL hs]at hv
 obtain⟨u,hu,hR⟩:=hv.one_inv
 cases hu
 have hY:=zCc h1 hy
 obtain⟨ad,cap,us,e1,e2,e3,e4,e5,e6,e7,e8,e9⟩:=hY.read
 rw[hsz]at e6 e7
 obtain⟨v',w',ω',r1,r2⟩:=zKD (ty:=o.type) hT h1 hd ht he rfl hpos hR e1 us e7 e5 (fun h=>(e4 h).1) (fun i j c hij=>(e8 i j c hij).flat_conv (by
  obtain⟨e,g1,g2⟩:=JZ hij
  have:=hflat e (List.mem_of_getElem? g1)
  rw[qp,List.all_eq_true]at this
  exact this c (List.mem_of_getElem? g2)) _ fun b hb=>⟨hb,rfl⟩) e6 hm hb
 refine⟨v',w',Z,ω',.inl ?_,by rw[hdst];exact r2⟩
 simp only[execOp,ho,resolve,invoke,builtin,Sem.run_bind,Sem.run_pure,Result.andThen_ok,List.map_toArray,List.map_cons,List.map_nil,r1]
theorem zPl{P:Program}{cx:Cx}{T:Nat→Option TI}(hT:TOk P T){st:St}{o:Oper}{t e:TypeId}{ie:TI}{x y:Operand}{d:Nat}{tk tk2:Tk}{es es2:List (List CV)}{own2:Bool}
  (ho:o.op=.call { callee:=.builtin .append,args:= #[x,y],argTypes:= #[t,t] }) (hdst:o.dst=some d) (ht:zCO T t=some e) (he:T e=some ie) (hpos:0<ie.size)
  (hx:Yp T st t x=some tk) (hag:tk.ag=false) (hcs:tk.cs=[.sl true ie.size es]) (hy:Yp T tk.st t y=some tk2) (hag2:tk2.ag=false) (hcs2:tk2.cs=[.sl own2 ie.size es2]) (hd:tk2.st.okD d)
  (hm:es.length+es2.length≤maxLen) (hb:(es.length+es2.length)*ie.bytes≤140737488355328):zCN P cx o st (tk2.st.put d (.val false [.sl true ie.size (es++es2)])):=by
 intro a w Z ω h
 obtain⟨ω1,h1,hs,hv,hn,_⟩:=Jv h hx 0
 obtain⟨ω2,h2,hs2,hv2,hn2,hoth⟩:=Jv h1 hy 1
 rw[hag]at hs
 rw[hag2]at hs2
 rw[hcs,zOL hs]at hv
 rw[hcs2,zOL hs2]at hv2
 obtain⟨u,hu,hR⟩:=hv.one_inv
 obtain⟨u2,hu2,hR2⟩:=hv2.one_inv
 cases hu
 cases hu2
 have hR':Qg w Z ω2 [2,0,0] (a.eval x) (.sl true ie.size es):=hR.conv _ (fun b hb=>⟨hb,rfl⟩) fun b r hb=>⟨hoth 0 (by omega) b _ hb,rfl⟩
 obtain⟨ad,cap,us,e1,e2,e3,e4,e5,e6,e7,e8,e9⟩:=hR2.read
 have h3:Rel cx tk2.st a w Z (Jt [2,1,0] 0 es2.length [2,0,0] es.length ω2):=
  h2.step (fun _=>False) ⟨fun b hb=>⟨hb,rfl⟩,fun r _ b x hb=>⟨qk hb (qS fun j r' h=>absurd h (Yo r 1 x (0::(0+j)::r'))) (qS fun j r' h=>absurd h (Yo r 0 x (0::(es.length+j)::r'))),rfl⟩,fun _ _=>rfl⟩ (h2.inv.reloc _ _ _ _ _) h2.nt h2.df h2.pin
   (fun t sv hm=>.inl ⟨hm,by cases sv<;>simp[SV.apart]⟩) (fun k cs hm=>.inl ⟨hm,fun h=>h⟩)
 have hR3:Qg w Z (Jt [2,1,0] 0 es2.length [2,0,0] es.length ω2) [2,0,0] (a.eval x) (.sl true ie.size es):=by
  rcases hR'.own_or with⟨g1,g2⟩|⟨b,cap,us,cur,T',g1,hω,hbh,hcap,hcm,hcs,hszs,hcc,hrr⟩
  ·rw[g1,g2];exact .nil _ _ _
  ·rw[g1]
   refine .own _ b cap _ _ us cur T' (qk hω (qS fun j r h=>by simp at h) (qS fun j r h=>by simp at h)) hbh hcap hcm hcs hszs hcc fun i j c hij=>?_
   obtain⟨k1,_⟩:=zJJ hszs hij
   refine(hrr i j c hij).conv _ (fun b hb=>⟨hb,rfl⟩) fun b r hb=>⟨qk hb (qS fun j2 r2 h=>by simp at h) (qS fun j2 r2 h=>by simp at h;omega),rfl⟩
 obtain⟨v',w',ω',r1,r2⟩:=zKD (ty:=o.type) hT h3 hd ht he rfl hpos hR3 e1 us e7 e5 (fun h=>(e4 h).1) (fun i j c hij=>by
  obtain⟨k1,_⟩:=zJJ e6 hij
  refine(e8 i j c hij).conv _ (fun b hb=>⟨hb,rfl⟩) fun b r hb=>⟨?_,rfl⟩
  have:=zBq (S:=[2,1,0]) (D:=[2,0,0]) (o:=0) (n:=es2.length) (o2:=es.length) (ω:=ω2) (b:=b) (j:=i) (r:=j::r) (by rw[hb];simp) k1
  rw[this];simp) e6 hm hb
 refine⟨v',w',Z,ω',.inl ?_,by rw[hdst];exact r2⟩
 simp only[execOp,ho,resolve,invoke,builtin,Sem.run_bind,Sem.run_pure,Result.andThen_ok,List.map_toArray,List.map_cons,List.map_nil,r1]
theorem zMu{z:Array Value}{n i j:Nat}(hj:j<z.size)(hi:i<n):(madeCells z (n*z.size))[i*z.size+j]? =some z[j]:=by
 have hlt:i*z.size+j<n*z.size:=by
  have:(i+1)*z.size≤n*z.size:=Nat.mul_le_mul_right _ (by omega)
  rw[Nat.add_mul]at this;omega
 unfold madeCells
 rw[Array.getElem?_map,Array.getElem?_range,if_pos hlt]
 simp only[Option.map_some,Option.some.injEq]
 rw[Nat.add_comm,Nat.add_mul_mod_self_right,Nat.mod_eq_of_lt hj]
 simp[hj]
theorem zNs{P:Program}{cx:Cx}{T:Nat→Option TI}(hT:TOk P T){st:St}{o:Oper}{t e:TypeId}{ie:TI}{x y:Operand}{d:Nat}{kl kc:IntKind}{l c:Int}
  (ho:o.op=.makeSlice t x y) (hdst:o.dst=some d) (ht:zCO T t=some e) (he:T e=some ie) (hd:st.okD d) (hx:Ql st x=some (.int kl l)) (hy:Ql st y=some (.int kc c))
  (h0:0≤l) (hlc:l≤c) (hby:(ie.bytes:Int)*c≤281474976710656) (h63:c≤9223372036854775807):zCN P cx o st (st.put d (.val false [.sl true ie.size (List.replicate l.toNat ie.zero)])):=by
 intro a w Z ω h
 have hu:=zCR hT ht
 obtain⟨info,i1,i2,i3,⟨z,i4,i5,i6⟩,_⟩:=hT e ie he
 have hv:=(qY h hx).1
 have hv2:=(qY h hy).1
 have hz:=i5.rep (w:=w.alloc (.cells (madeCells z.cells (c.toNat*info.size)) e)) (Z:=Z) (ω:=grow w.heap.size [0,d,0] ω)
 have hzs:z.cells.size=ie.size:=by rw[←Array.length_toList,hz.1,i6.2]
 have hr:=run_make (P:=P) w t e info z hu i1 i4 kl kc l c h0 hlc (by rw[i3];exact hby) h63
 have hheap:∀b,b<w.heap.size→(w.alloc (.cells (madeCells z.cells (c.toNat*info.size)) e)).heap[b]? =w.heap[b]? :=fun b hb=>heap_alloc_old w _ hb
 have hlt:∀b p,ω b=some p→b≠w.heap.size:=fun b p hb=>by have:=h.inv.lt b p hb;omega
 have hln:(List.replicate l.toNat ie.zero).length=l.toNat:=List.length_replicate
 have hel:∀i j cc,elC (List.replicate l.toNat ie.zero) i j=some cc→i<l.toNat∧ie.zero[j]? =some cc:=by
  intro i j cc hij
  obtain⟨x,g1,g2⟩:=JZ hij
  rw[List.getElem?_replicate]at g1
  split at g1
  ·rename_i hi;cases g1;exact⟨hi,g2⟩
  ·cases g1
 refine⟨.slice (some ⟨w.heap.size,0,none⟩) l.toNat c.toNat,w.alloc (.cells (madeCells z.cells (c.toNat*info.size)) e),Z,grow w.heap.size [0,d,0] ω,.inl ?_,?_⟩
 ·simp only[execOp,ho,hv,hv2,Sem.run_bind,hr,Result.andThen_ok]
  rfl
 ·rw[hdst]
  have hput:=h.putSlice hd (h.inv.alloc (madeCells z.cells (c.toNat*info.size)) e [0,d,0]) (fun b hb=>hheap b (h.inv.zlt b hb))
   (fun r hr b x hb=>⟨zFC hb (hlt b _ hb) (fun e=>hr (Zw (r:=r) (s:=.slot d) (x:=x) (y:=[0]) (by rw[e];rfl)).1),hheap b (h.inv.lt b _ hb)⟩)
   (B:=w.heap.size) (cap:=c.toNat) (sz:=ie.size) (es:=List.replicate l.toNat ie.zero) (us:=fun i j=>z.cells.toList.getD j undef) zHa (heap_alloc_new w _) (by rw[hln];omega)
   (by simp only[maxLen];omega) (by rw[size_madeCells,i2]) (fun x hx=>by rw[List.eq_of_mem_replicate hx];exact i6.2) (fun i j cc hij=>?_) (fun i j cc hij=>?_)
  ·rw[hln]at hput;exact hput
  ·obtain⟨k1,k2⟩:=hel i j cc hij
   have hj:j<z.cells.size:=by rw[hzs,←i6.2];exact(List.getElem?_eq_some_iff.1 k2).1
   rw[i2,←hzs,zMu hj (by omega)]
   simp[List.getD,hj]
  ·obtain⟨k1,k2⟩:=hel i j cc hij
   have hj:j<z.cells.toList.length:=by rw[hz.1];exact(List.getElem?_eq_some_iff.1 k2).1
   refine hz.2 j cc _ k2 ?_ _
   simp[List.getD,List.getElem?_eq_getElem hj]
theorem zMA{P:Program}{cx:Cx}{T:Nat→Option TI}(hT:TOk P T){st:St}{o:Oper}{t e:TypeId}{ie:TI}{x:Operand}{lo hi:Option Operand}{d:Nat}{s:zFp}{l h:Nat}
  (ho:o.op=.slice t x lo hi none) (hdst:o.dst=some d) (ht:zCO T t=some e) (he:T e=some ie) (hd:st.okD d) (hx:slS st x=some s) (hown:s.own=false) (hsz:s.sz=ie.size)
  (hlo:match lo with|some y=>∃k,Ql st y=some (.int k (l:Int))|none=>l=0) (hhi:match hi with|some y=>∃k,Ql st y=some (.int k (h:Int))|none=>h=s.es.length)
  (h1:l≤h) (h2:h≤s.es.length):zCN P cx o st (st.put d (.val false [.sl false s.sz ((s.es.drop l).take (h-l))])):=by
 intro a w Z ω hR
 have hu:=zCR hT ht
 have hsize:=(hT e ie he).sizeOf w
 have hS:=zCc hR hx
 rw[hown]at hS
 obtain⟨ad,cap,us,e1,e2,e3,e4,e5,e6,e7,e8,e9⟩:=hS.read
 obtain⟨e9,e10⟩:=e9 rfl
 have hb:(Instr.sliceBounds true s.es.length cap (lo.map a.eval) (hi.map a.eval) none).run P w=.ok (l,h,cap) w:=by
  have hl:∀y,lo=some y→∃k,a.eval y=.int k (l:Int):=by
   intro y hy;subst hy;obtain⟨k,hk⟩:=hlo;exact⟨k,(qY hR hk).1⟩
  have hh:∀y,hi=some y→∃k,a.eval y=.int k (h:Int):=by
   intro y hy;subst hy;obtain⟨k,hk⟩:=hhi;exact⟨k,(qY hR hk).1⟩
  have b1:h≤cap:=by omega
  cases lo with
  |none=>
   simp only at hlo;subst hlo
   cases hi with
   |none=>simp only at hhi;subst hhi;simp[Instr.sliceBounds]
   |some y=>obtain⟨k,hk⟩:=hh y rfl;simp[Instr.sliceBounds,hk,Instr.sliceBound,asIntOf,b1]
  |some x2=>
   obtain⟨k2,hk2⟩:=hl x2 rfl
   cases hi with
   |none=>simp only at hhi;subst hhi;simp[Instr.sliceBounds,hk2,Instr.sliceBound,asIntOf,h1]
   |some y=>obtain⟨k,hk⟩:=hh y rfl;simp[Instr.sliceBounds,hk,hk2,Instr.sliceBound,asIntOf,b1,h1]
 have hlen:((s.es.drop l).take (h-l)).length=h-l:=by simp;omega
 have hmem:∀x∈(s.es.drop l).take (h-l),x∈s.es:=fun x hx=>List.mem_of_mem_drop (List.mem_of_mem_take hx)
 have hel:∀i j c,elC ((s.es.drop l).take (h-l)) i j=some c→elC s.es (l+i) j=some c:=by
  intro i j c hij
  obtain⟨x,g1,g2⟩:=JZ hij
  rw[List.getElem?_take]at g1
  split at g1
  ·rw[List.getElem?_drop]at g1;exact JM g1 g2
  ·cases g1
 refine⟨.slice (if cap=l then ad else ad.map (·.add (l*ie.size))) (h-l) (cap-l),w,Z,ω,.inl ?_,?_⟩
 ·simp[execOp,ho,Instr.sliceAt,Instr.slice,run_underlying hu,e1,hb,hsize]
 ·rw[hdst]
  refine hR.put_same hd ⟨rfl,rfl,fun j c u hc hu=>?_⟩
  cases j with
  |succ j=>simp at hc
  | zero =>
   simp only[List.getElem?_cons_zero,Option.some.injEq]at hc
   subst hc
   have hu':u=.slice (if cap=l then ad else ad.map (·.add (l*ie.size))) (h-l) (cap-l):=by
    have:some (Value.slice (if cap=l then ad else ad.map (·.add (l*ie.size))) (h-l) (cap-l))=some u:=hu
    exact(Option.some.inj this).symm
   subst hu'
   cases had:ad with
   |none=>
    obtain⟨g1,g2⟩:=e4 had
    have hl0:l=0:=by rw[g1]at h2;simp at h2;omega
    have hh0:h=0:=by rw[g1]at h2;simp at h2;omega
    subst hl0;subst hh0
    rw[g1,g2]
    simp
    exact .nil _ _ _
   | some A =>
    by_cases hne:s.es=[]
    ·have hl0:l=0:=by rw[hne]at h2;simp at h2;omega
     have hh0:h=0:=by rw[hne]at h2;simp at h2;omega
     subst hl0;subst hh0
     have hnil:(s.es.drop 0).take (0-0)=[]:=by simp
     rw[hnil]
     have hx:∃A',(if cap=0 then some A else(some A).map (·.add (0*ie.size)))=some A':=by split<;>exact⟨_,rfl⟩
     obtain⟨A',hA'⟩:=hx
     rw[hA']
     exact .fro _ A' (cap-0) s.sz [] (fun _ _=>undef) (fun e=>absurd rfl e) (fun e=>absurd rfl e) (Nat.zero_le _) (by omega) (fun e he=>by cases he) (fun i j c hij=>by simp[elC]at hij) (fun i j c hij=>by simp[elC]at hij) (fun i j c hij=>by simp[elC]at hij)
    obtain⟨Ab,Ao,Asp⟩:=A
    have hsp:=e5 hne _ had
    simp only at hsp
    subst hsp
    have hadd:(if cap=l then some (⟨Ab,Ao,none⟩:Addr)else(some (⟨Ab,Ao,none⟩:Addr)).map (·.add (l*ie.size)))=some ⟨Ab,if cap=l then Ao else Ao+l*ie.size,none⟩:=by
     split
     ·rfl
     ·simp[add_lit]
    rw[hadd]
    have hk:=e7 _ had
    suffices hq:Qg w Z ω ([0,d]++[0]) (.slice (some ⟨Ab,if cap=l then Ao else Ao+l*ie.size,none⟩) ((s.es.drop l).take (h-l)).length (cap-l)) (.sl false s.sz ((s.es.drop l).take (h-l))) by
     rw[hlen]at hq;exact hq
    refine .fro _ ⟨Ab,_,none⟩ (cap-l) s.sz _ (fun i j=>us (l+i) j) (fun _=>rfl) (fun _=>show Z Ab from e9 hne _ had) (by rw[hlen];omega) (by omega) (fun x hx=>e6 x (hmem x hx)) (fun i j c hij=>e10 _ _ _ (hel i j c hij)) (fun i j c hij=>?_) (fun i j c hij=>?_)
    ·have h3:=hk _ _ _ (hel i j c hij)
     have hlt:=zJJ e6 (hel i j c hij)
     rw[if_neg (by omega)]
     rw[←h3]
     congr 2
     simp only
     rw[hsz,Nat.add_mul]
     omega
    ·exact(e8 _ _ _ (hel i j c hij)).flat_conv (e10 _ _ _ (hel i j c hij)) _ fun b hb=>⟨hb,rfl⟩
end Go.TL
