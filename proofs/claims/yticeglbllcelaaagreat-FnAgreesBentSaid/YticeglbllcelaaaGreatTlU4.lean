import Derived.Test.YticeglbllcelaaaGreatTlU3
set_option linter.unusedVariables false
namespace Go.TL
def zCb(r:zn)(n:Nat):List (Nat×SV)→List (Nat×SV)
 |[]=>[]
 |(t,sv)::l=>match sv with
  |.ref r' q m o k ag=>bif r'.eqb r&&Nat.blt q.length n then(t,.ref r' q m o k ag)::zCb r n l else zCb r n l
  |_=>zCb r n l
theorem zFg{r:zn}{n t:Nat}{sv:SV} :∀ {l:List (Nat×SV)},(t,sv)∈zCb r n l→(t,sv)∈l∧∃q m o k ag,sv=.ref r q m o k ag∧q.length<n
 |[],h=>by cases h
 | (t',sv') :: l,h => by
  have up:(t,sv)∈zCb r n l→(t,sv)∈(t',sv')::l∧∃q m o k ag,sv=.ref r q m o k ag∧q.length<n:=fun h=>
   ⟨List.mem_cons_of_mem _ (zFg h).1,(zFg h).2⟩
  simp only[zCb]at h
  split at h
  ·rename_i r' q m o k ag
   cases hc:(r'.eqb r&&Nat.blt q.length n)with
   |false=>simp only[hc,cond_false]at h;exact up h
   | true =>
    simp only[hc,cond_true]at h
    rcases List.mem_cons.1 h with e|h
    ·cases e
     simp only[Bool.and_eq_true,zAj]at hc
     obtain⟨h1,h2⟩:=hc
     subst h1
     exact⟨List.mem_cons_self,q,m,o,k,ag,rfl,Nat.le_of_ble_eq_true h2⟩
    ·exact up h
  ·exact up h
theorem zJ3:∀(q:List (Nat×Nat)),(qj q).length=2*q.length
 |[]=>rfl
 |(j,i)::q=>by simp only[qj,List.length_cons,zJ3 q];omega
theorem zNe{q:List (Nat×Nat)}(h:q≠ []):(spine q).length+1=2*q.length:=by
 have:=congrArg List.length (zGy q h)
 rw[zJ3,List.length_append,List.length_singleton]at this
 omega
theorem zQz{P:Program}{cx:Cx}{T:Nat→Option TI}(hT:TOk P T){st st':St}{o:Oper}{t:TypeId}{ad x:Operand}{tk:Tk}{s:zO5}{i:TI}
  (ho:o.op=.store t ad x) (hdst:o.dst=none) (ht:T t=some i) (hx:Yp T st t x=some tk) (hl:tk.cs.length=i.size) (ha:adS tk.st ad=some s) (hle:s.o+i.size≤s.e.length)
  (hm:tk.st.modR (zZ tk.cs) s.r s.q (setAt s.o tk.cs)=some st'):zCN P cx o st { st' with s:=st'.s++zCb s.r s.q.length tk.st.s } :=by
 intro a w Z ω h
 obtain⟨ω1,h1,hs,hv,hn,_⟩:=Jv h hx 0
 obtain⟨b,cur,T',us0,row,e1,e2,e3,e4,e5,e6,e7,e8⟩:=zEy h1 ha
 obtain⟨us,hus,husl⟩:=h1.row e5
 have hvl:(a.eval x).cells.toList.length=i.size:=by rw[hv.1,hl]
 obtain⟨ω2,i1,i2,i3,i4,i5,i6⟩:=zHZ (cx:=cx) e4 (a.eval x).cells.toList tk.cs 0 w ω1 us row s.e s.o b h1.inv hus e6 (by rw[hl];exact hle) e2 (zEa.zero.2 hv)
 have hcells:∀j,j<(a.eval x).cells.toList.length→(w.cell? ⟨b,ZH s.q*s.e.length+s.o+0+j,none⟩).isSome=true:=by
  intro j hj
  rw[hvl]at hj
  obtain⟨u,g1,_⟩:=e8 (s.o+j) s.e[s.o+j] (List.getElem?_eq_getElem (by omega))
  rw[zDH e3,show ZH s.q*s.e.length+s.o+0+j=ZH s.q*s.e.length+(s.o+j) by omega,g1]
  rfl
 have hfroz:∀k,w.frozen? ⟨b,k,none⟩=false:=by
  intro k
  simp only[World.frozen?,e3]
  simp
 have hrun:=run_storeCells_cells (P:=P) b (ZH s.q*s.e.length+s.o) (a.eval x).cells.toList 0 w hcells (fun j _=>hfroz _) hv.ones
 refine⟨undef,w.setCells b (ZH s.q*s.e.length+s.o) (a.eval x).cells.toList,Z,ω2,.inr ⟨?_,rfl⟩,?_⟩
 ·have hsz:=(hT t i ht).sizeOf w
  have hsz2:(a.eval x).cells.size=i.size:=by rw[←Array.length_toList];exact hvl
  simp only[Nat.add_zero]at hrun
  simp only[execOp,ho,Instr.storeAt,e1,Instr.sureAddr,storeVar,Sem.run_bind,Sem.run_pure,Result.andThen_ok,hsz,hsz2]
  simp[hrun]
 ·rw[hdst]
  show Rel cx _ a _ Z ω2
  have hR:Rel cx st' a (w.setCells b (ZH s.q*s.e.length+s.o) (a.eval x).cells.toList) Z ω2:=by
   refine h1.modR hm e5 (Ji e6 (QT _ _ _)) ?_ ⟨us,i2,husl⟩ i1 (fun b hb=>⟨hb,i3 b hb⟩) ?_ i6 ?_
   ·intro cells hc q' hq'
    rw[hc,hq']at e6
    simp only[zAM,List.getElem?_cons_zero]at e6
    exact Ji e6 (QT _ _ _)
   ·intro r' hr' b0 x0 hb0
    refine⟨i5 b0 _ hb0 zA9 (Y2 hr'),i4 b0 _ hb0 (fun e=>hr' (Zw e).1)⟩
   ·intro k0 hk0 b0 hb0
    refine i5 b0 _ hb0 (qS fun j2 r3 h=>by simp at h) (qS fun j2 r3 h=>?_)
    rw[hk0]at h
    have hl2:=congrArg List.length h
    cases hq:s.q with
    |nil=>exact absurd hq e4
    |cons y q=>rw[hq]at hl2;obtain⟨y1,y2⟩:=y;simp[qj,zn.path]at hl2
  refine { hR with hs:=fun t' sv hm'=>?_ }
  rcases List.mem_append.1 hm' with hm'|hm'
  ·exact hR.hs t' sv hm'
  ·obtain⟨g0,q',m,o',k,ag,rfl,hlt⟩:=zFg hm'
   obtain⟨k1,k2,k3⟩:=h1.hs t' _ g0
   refine⟨k1,k2,fun j u hu=>?_⟩
   have hc:=k3 j u hu
   cases q' with
   |nil=>
    cases hr:s.r with
    |slot t0=>rw[hr]at hc;exact hc
    |box k0=>rw[hr]at hc;exact hc.elim
   | cons y q' =>
    obtain⟨b0,cur0,T0,f1,f2,f3⟩:=hc
    have hne:y::q'≠ []:=by simp
    have hsl:=zNe hne
    have hsl2:=zNe e4
    refine⟨b0,cur0,T0,i5 b0 _ f1 zA9 (qS fun j2 r3 hh=>?_),(i4 b0 _ f1 fun hh=>?_).trans f2,f3⟩
    ·have h3:=congrArg List.length hh
     simp only[List.length_append,List.length_cons,zJ3]at h3 hsl
     simp only[List.length_cons]at hlt
     omega
    ·have h3:=congrArg List.length hh
     simp only[List.length_append]at h3
     omega
def St.modRK(kd:Bool)(st:St)(r:zn)(n:Nat)(cs':List CV):Option St:=match st.modRX kd r cs' with
 |some s=>some { s with s:=s.s++zCb r n st.s }
 |none=>none
def zQE(kd:Bool)(st:St)(r:zn)(n:Nat)(cs':List CV):St:=match st.modRK kd r n cs' with
 |some s=>s
 |none=>⟨0,0,[],[]⟩
theorem zAz{P:Program}{cx:Cx}{T:Nat→Option TI}(hT:TOk P T){ops:Array Oper}{n:Nat}{st:St}{K:St→Prop}{t ty:TypeId}{ad x:Operand}{g:Option (Nat×Bool)}(i:TI)(ag:Bool)(tcs:List CV)(r:zn)(q q':List (Nat×Nat))(m o:Nat)(row e cs cs':List CV)
  (hop:opAt ops n=some (.store t ad x,none,ty,g)) (hg:gdT ops st g=true) (ht:T t=some i) (hx:(Yp T st t x).map (fun tk=>(tk.ag,tk.cs))=some (ag,tcs)) (hl:(tcs.length==i.size)=true) (ha:zLn (zBC T st t x) ad=some (r,q,m,o,row)) (hge:zAM row q=some e) (hm:e.length=m) (hq:q≠ [])
  (hle:Nat.ble (o+i.size) m=true) (hrr:zE7 (zBC T st t x) r=some cs) (hrq:zPu r q=some q') (hmod:zC1 (setAt o tcs) cs q'=cs') (hst:((zBC T st t x).modRK (zZ tcs) r q.length cs').isSome=true) (hk:LAt P cx ops (n+1) (zQE (zZ tcs) (zBC T st t x) r q.length cs') K):LAt P cx ops n st K:=by
 obtain⟨st',hs⟩:=Option.isSome_iff_exists.1 hst
 unfold zQE at hk
 rw[hs]at hk
 subst hm
 unfold St.modRK at hs
 split at hs
 ·rename_i s2 hs2
  cases hs
  exact Yb hop hg rfl (fun o' ho hdst _=>zQz hT ho hdst ht (zP0 hx) (eq_of_beq hl) (zSB ha hge rfl hq) (Nat.le_of_ble_eq_true hle) (by rw[zQY hrr hrq hmod];exact hs2)) hk
 ·cases hs
def zLl(st:St)(orc:List (Nat×List CV)):Prop:=∀t e,lk orc t=some e→∃r q m o n ag row,lk st.s t=some (.ref r q m o n ag)∧rowOf st r=some row∧zAM row q=some e
theorem zJe{st:St} :zLl st []:=fun t e h=>by cases h
def zTB(st:St)(t:Nat):Option (List CV×List (Nat×Nat)):=match lk st.s t with
 |some (.ref r q _ _ _ _)=>match rowOf st r with
  |some row=>some (row,q)
  |none=>none
 |_=>none
theorem zHg{st:St}{t:Nat}{e row:List CV}{q:List (Nat×Nat)}{orc:List (Nat×List CV)}(h1:zTB st t=some (row,q))(h3:zAM row q=some e)(h:zLl st orc):zLl st ((t,e)::orc):=by
 intro t' e' hl
 simp only[lk]at hl
 cases hb:t==t' with
 |false=>simp only[hb,cond_false]at hl;exact h t' e' hl
 | true =>
  simp only[hb,cond_true,Option.some.injEq]at hl
  obtain rfl:=eq_of_beq hb
  subst hl
  unfold zTB at h1
  cases hlk:lk st.s t with
  |none=>rw[hlk]at h1;cases h1
  | some sv =>
   rw[hlk]at h1
   cases sv with
   |ref r q' m o n ag=>
    simp only at h1
    cases hrow:rowOf st r with
    |none=>rw[hrow]at h1;cases h1
    |some row'=>rw[hrow]at h1;cases h1;exact⟨r,_,m,o,n,ag,_,rfl,hrow,h3⟩
   |_=>cases h1
def zRR(orc:List (Nat×List CV))(st:St)(t:Nat)(r:zn)(q:List (Nat×Nat))(m o n:Nat):Option (List CV):=match lk orc t with
 |some e=>bif (q.isEmpty||e.length==m)&&Nat.ble (o+n) e.length then some ((e.drop o).take n)else none
 |none=>zMB st r q m o n
theorem zPJ{orc:List (Nat×List CV)}{st:St}(h:zLl st orc){t:Nat}{r:zn}{q:List (Nat×Nat)}{m o n:Nat}{ag:Bool}(hl:lk st.s t=some (.ref r q m o n ag)):zRR orc st t r q m o n=zMB st r q m o n:=by
 unfold zRR
 split
 ·rename_i e he
  obtain⟨r',q',m',o',n',ag',row,h1,h2,h3⟩:=h t e he
  rw[hl]at h1
  cases h1
  simp only[zMB,h2,h3]
 ·rfl
def zSV(orc:List (Nat×List CV))(T:Nat→Option TI)(st:St)(m:Mode)(ty:TypeId)(x:Operand)(i:Nat)(ow:Option (Bool×List CV)):Option (JX×Option zn×Option YK):=match m,x with
 | .rd,.tmp t => match lk st.s t with
  |some (.ref r q m o n ag)=>match zRR orc st t r q m o n with
   |some c=>bif zZ c then some (.val ag c,none,none)else some (.val ag (qh c),some r,none)
   |none=>none
  |_=>zKE T st .rd ty (.tmp t) i ow
 | .lend,.tmp t => match lk st.s t with
  |some (.ref r q m o n ag)=>match zRR orc st t r q m o n with
   |some c=>some (.io ag c,none,some ⟨i,false,r,q,o,n⟩)
   |none=>none
  |_=>zKE T st .lend ty (.tmp t) i ow
 |m,x=>zKE T st m ty x i ow
theorem zRY{orc:List (Nat×List CV)}{T:Nat→Option TI}{st:St}(h:zLl st orc)(m:Mode)(ty:TypeId)(x:Operand)(i:Nat)(ow:Option (Bool×List CV)):zSV orc T st m ty x i ow=zKE T st m ty x i ow:=by
 unfold zSV
 split
 ·rename_i t
  split
  ·rename_i r q m o n ag hl
   rw[zPJ h hl]
   simp only[zKE,hl]
   cases zMB st r q m o n<;>rfl
  ·rfl
 ·rename_i t
  split
  ·rename_i r q m o n ag hl
   rw[zPJ h hl]
   simp only[zKE,hl]
   cases zMB st r q m o n<;>rfl
  ·rfl
 ·rfl
def zOR(orc:List (Nat×List CV))(T:Nat→Option TI)(st:St):List (Mode×TypeId×Operand)→List (Option (Bool×List CV))→Nat→Option (List JX×List zn×Option YK)
 |[],_,_=>some ([],[],none)
 | (m,ty,x) :: r,ow :: ows,i => match zSV orc T st m ty x i ow with
  | some (p,br,ld) => match zOR orc T st r ows (i + 1) with
   | some (ps,brs,ld') => match ld with
    |none=>some (p::ps,br.toList++brs,ld')
    |some l=>match ld' with
     |none=>some (p::ps,br.toList++brs,some l)
     |some _=>none
   |none=>none
  |none=>none
 |_::_,[],_=>none
theorem zNE{orc:List (Nat×List CV)}{T:Nat→Option TI}{st:St}(h:zLl st orc):∀(xs:List (Mode×TypeId×Operand)) (ows:List (Option (Bool×List CV))) (i:Nat),zOR orc T st xs ows i=zFU T st xs ows i
 |[],_,_=>rfl
 | (m,ty,x) :: r,ow :: ows,i => by
  simp only[zOR,zFU,zRY h,zNE h r ows (i+1)]
  cases zKE T st m ty x i ow with
  |none=>rfl
  | some p =>
   obtain⟨p,br,ld⟩:=p
   simp only
   cases zFU T st r ows (i+1)with
   |none=>rfl
   |some y=>
    obtain⟨ps,brs,ld'⟩:=y
    cases ld with
    |none=>rfl
    |some l=>cases ld'<;>rfl
 |_::_,[],_=>rfl
def zQA(T:Nat→Option TI)(ms:List Mode)(as:List Operand)(ats:List TypeId)(st:St):St:=match zRW ms ats as with
 |some xs=>match zCQ T xs 0 st with
  |some (_,st1)=>st1
  |none=>st
 |none=>st
def zRQ(orc:List (Nat×List CV))(T:Nat→Option TI)(ms:List Mode)(as:List Operand)(ats:List TypeId)(st:St):Option (List JX×List zn×Option YK×St):=match zRW ms ats as with
 | some xs => match zCQ T xs 0 st with
  |some (ows,st1)=>match zOR orc T st1 xs ows 0 with
   |some (ps,brs,ld)=>bif (match ld with|some l=>zRT l.r brs|none=>false)then none else some (ps,brs,ld,st1)
   |none=>none
  |none=>none
 |none=>none
theorem zRq{orc:List (Nat×List CV)}{T:Nat→Option TI}{ms:List Mode}{as:List Operand}{ats:List TypeId}{st:St}(h:zLl (zQA T ms as ats st) orc):zRQ orc T ms as ats st=zPp T ms as ats st:=by
 unfold zRQ zPp
 unfold zQA at h
 cases hz:zRW ms ats as with
 |none=>rfl
 | some xs =>
  rw[hz]at h
  simp only at h⊢
  cases hc:zCQ T xs 0 st with
  |none=>rfl
  |some p=>
   obtain⟨ows,st1⟩:=p
   rw[hc]at h
   simp only at h⊢
   rw[zNE h]
   cases zFU T st1 xs ows 0 with
   |none=>rfl
   |some y=>obtain⟨ps,brs,ld⟩:=y;cases ld<;>rfl
def zSW(nr:Option (List CV))(st:St)(ld:Option YK)(outs:List (Nat×List CV)):Option St:=match nr with
 |none=>zCP st ld outs
 | some cs' => match ld with
  |none=>none
  | some l => match lk outs l.i with
   |some out=>bif out.length==l.n then(match st.modRX false l.r cs' with
    |some st'=>some { st' with s:=st'.s++bif l.ptr then []else zD8 l.r l.q.length st.s }
    |none=>none)else none
   |none=>none
def zQD(st:St)(ld:Option YK)(outs:List (Nat×List CV)):Option (List CV×List (Nat×Nat)×Bool×Nat×List CV):=match ld with
 |none=>none
 | some l => match lk outs l.i with
  | some out => match zE7 st l.r with
   |some cs=>match zPu l.r l.q with
    |some q=>some (cs,q,l.ptr,l.o,out)
    |none=>none
   |none=>none
  |none=>none
theorem zRf{cs':List CV}{st:St}{ld:Option YK}{outs:List (Nat×List CV)}{cs:List CV}{q:List (Nat×Nat)}{pt:Bool}{o:Nat}{out:List CV}(h:zQD st ld outs=some (cs,q,pt,o,out))(hm:zC1 (bif pt then(fun _=>out)else setAt o out) cs q=cs'):zSW (some cs') st ld outs=zCP st ld outs:=by
 unfold zQD at h
 split at h
 ·cases h
 ·rename_i l
  split at h
  ·rename_i out' hout
   split at h
   ·rename_i cs0 hrow
    split at h
    ·rename_i q0 hq
     cases h
     have:zC1 (zOV l out) cs q=cs':=hm
     simp only[zSW,zCP,hout,zQY hrow hq this]
     cases out.length==l.n with
     |false=>rfl
     |true=>cases St.modRX false st l.r cs'<;>rfl
    ·cases h
   ·cases h
  ·cases h
def zOT(orc:List (Nat×List CV))(nr:Option (List CV))(T:Nat→Option TI)(ms:List Mode)(as:List Operand)(ats:List TypeId)(d:Option Nat)(rets:List Ret)(outs:List (Nat×List CV))(st:St):Option (List JX×List zn×St):=match zRQ orc T ms as ats st with
 | some (ps,brs,ld,st1) => match zSW nr st1 ld outs with
  |some st2=>match zFv st2 d rets with
   |some st3=>some (ps,brs,st3)
   |none=>none
  |none=>none
 |none=>none
def zQN(orc:List (Nat×List CV))(nr:Option (List CV))(T:Nat→Option TI)(ms:List Mode)(as:List Operand)(ats:List TypeId)(d:Option Nat)(rets:List Ret)(outs:List (Nat×List CV))(st:St):St:=match zOT orc nr T ms as ats d rets outs st with
 |some x=>x.2.2
 |none=>⟨0,0,[],[]⟩
def zSL(orc:List (Nat×List CV))(T:Nat→Option TI)(ms:List Mode)(as:List Operand)(ats:List TypeId)(outs:List (Nat×List CV))(st:St):Option (List CV×List (Nat×Nat)×Bool×Nat×List CV):=match zRQ orc T ms as ats st with
 |some (_,_,ld,st1)=>zQD st1 ld outs
 |none=>none
theorem zGa{P:Program}{cx:Cx}{T:Nat→Option TI}(hT:TOk P T){ops:Array Oper}{i:Nat}{st:St}{K:St→Prop}(ms:List Mode){f:FuncId}{av:Array Operand}{ats:Array TypeId}{d:Option Nat}{ty:TypeId}{g:Option (Nat×Bool)}(orc:List (Nat×List CV))(nr:Option (List CV))
  (hop:opAt ops i=some (.call { callee:=.value (.func f),args:=av,argTypes:=ats },d,ty,g)) (hg:gdT ops st g=true) (hd:(match d with|some d=>Zx st d|none=>true)=true) {ps:List JX} (brs:List zn) {rets:List Ret} {outs:List (Nat×List CV)}
  (hL:zb P f ps rets outs) (horc:zLl (zQA T ms av.toList ats.toList st) orc) (hq:(zOT orc nr T ms av.toList ats.toList d rets outs st).map (fun x=>(x.1,x.2.1))=some (ps,brs))
  (hnr:∀cs',nr=some cs'→∃cs q pt o out,zSL orc T ms av.toList ats.toList outs st=some (cs,q,pt,o,out)∧zC1 (bif pt then(fun _=>out)else setAt o out) cs q=cs') (hmine:brs=[]∨((∀r∈rets,r.mine)∧∀i out,(i,out)∈outs→z5 out)) (hk:LAt P cx ops (i+1) (zQN orc nr T ms av.toList ats.toList d rets outs st) K):LAt P cx ops i st K:=by
 unfold zQN at hk
 cases hc:zOT orc nr T ms av.toList ats.toList d rets outs st with
 |none=>rw[hc]at hq;cases hq
 | some x =>
  obtain⟨ps',brs',st3⟩:=x
  rw[hc]at hq hk
  cases hq
  unfold zOT at hc
  unfold zSL at hnr
  split at hc
  ·rename_i ps1 brs1 ld st1 hpre
   rw[hpre]at hnr
   simp only at hnr
   split at hc
   ·rename_i st2 hgive
    split at hc
    ·rename_i st3' hpost
     cases hc
     rw[zRq horc]at hpre
     refine LAt.call hT hop hg hd ms hL hpre hmine (st3:=st3) ?_ hk
     unfold zM9
     have:zCP st1 ld outs=some st2:=by
      cases nr with
      |none=>exact hgive
      |some cs'=>
       obtain⟨cs,q,pt,o,out,g1,g2⟩:=hnr cs' rfl
       rw[←zRf g1 g2];exact hgive
     rw[this]
     exact hpost
    ·cases hc
   ·cases hc
  ·cases hc
theorem zJd{α:Type}{p:α→Prop} :∀cs':α,(none:Option α)=some cs'→p cs':=fun _ h=>by cases h
theorem zHh:∀(i:Nat) (out:List CV),(i,out)∈([]:List (Nat×List CV))→z5 out:=fun _ _ h=>by cases h
end Go.TL
