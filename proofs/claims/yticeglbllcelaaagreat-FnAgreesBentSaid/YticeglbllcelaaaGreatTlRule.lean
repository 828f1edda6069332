import Derived.Test.YticeglbllcelaaaGreatTlY
set_option linter.unusedVariables false
namespace Go.TL
theorem bind_some{α β:Type}{o:Option α}{f:α→Option β}{b:β}(h:o.bind f=some b):∃a,o=some a∧f a=some b:=Option.bind_eq_some_iff.1 h
theorem Yb{P:Program}{cx:Cx}{ops:Array Oper}{i:Nat}{st st':St}{K:St→Prop}{op d ty g}(hop:opAt ops i=some (op,d,ty,g))(hg:gdT ops st g=true)(hd:(match d with|some d=>Zx st d|none=>true)=true)
  (h:∀o:Oper,o.op=op→o.dst=d→o.type=ty→zCN P cx o st st') (hk:LAt P cx ops (i+1) st' K):LAt P cx ops i st K:=by
 obtain⟨o,ho,e1,e2,e3,e4⟩:=zHy hop
 have hopt:OpT P cx o st (fun st'=>zAZ P cx ops (ops.toList.drop (i+1)) st' K):=(h o e1 e2 e3).opT hk
 unfold LAt
 rw[zOD ho]
 cases hgg:g with
 |none=>exact zAZ.cons (by rw[e4,hgg]) hopt
 | some jw =>
  obtain⟨j,want⟩:=jw
  rw[hgg]at hg e4
  simp only[gdT]at hg
  have hd':∀x,o.dst=some x→st.okD x:=fun x hx=>by rw[e2]at hx;subst hx;exact qi hd
  split at hg
  ·rename_i hgs
   subst hg
   exact zAZ.guard e4 hgs hd' (fun _=>hopt) (fun e=>absurd rfl e)
  ·rename_i hgs
   have:want=false:=by simpa using hg
   subst this
   exact zAZ.guard e4 hgs hd' (fun _=>hopt) (fun e=>absurd rfl e)
  ·cases hg
def zIw(T:Nat→Option TI)(st:St)(t:TypeId)(x y:Operand):Option (zFp×Int):=match zCO T t with
 | some et => match T et with
  | some ie => match slS st x with
   |some s=>match Ql st y with
    |some (.int _ i)=>bif s.sz==ie.size then some (s,i)else none
    |_=>none
   |none=>none
  |none=>none
 |none=>none
theorem zP4{P:Program}{cx:Cx}{T:Nat→Option TI}(hT:TOk P T){ops:Array Oper}{n:Nat}{st:St}{K:St→Prop}{t ty:TypeId}{x y:Operand}{d:Nat}{g:Option (Nat×Bool)}(s:zFp)(i:Int)(e:List CV)(st':St)
  (hop:opAt ops n=some (.indexAddr t x y,some d,ty,g)) (hg:gdT ops st g=true) (hd:Zx st d=true) (hq:zIw T st t x y=some (s,i)) (hown:s.own=false) (hi:IsE s.es i e) (hst:st.put d (.fad e)=st') (hk:LAt P cx ops (n+1) st' K):LAt P cx ops n st K:=by
 subst hst
 refine Yb hop hg hd (fun o ho hdst _=>?_) hk
 unfold zIw at hq
 split at hq
 ·rename_i et ht
  split at hq
  ·rename_i ie he
   split at hq
   ·rename_i s' hx
    split at hq
    ·rename_i k i' hy
     cases hs:(s'.sz==ie.size)with
     |false=>simp[hs]at hq
     |true=>
      simp only[hs,cond_true,Option.some.injEq,Prod.mk.injEq]at hq
      obtain⟨rfl,rfl⟩:=hq
      exact zNX hT ho hdst (qi hd) ht he hx (eq_of_beq hs) hy hown hi
    ·cases hq
   ·cases hq
  ·cases hq
 ·cases hq
theorem zP5{P:Program}{cx:Cx}{T:Nat→Option TI}(hT:TOk P T){ops:Array Oper}{n:Nat}{st:St}{K:St→Prop}{t ty:TypeId}{x y:Operand}{d:Nat}{g:Option (Nat×Bool)}(s:zFp)(i:Int)(j:Nat)(e:List CV)(st':St)
  (hop:opAt ops n=some (.indexAddr t x y,some d,ty,g)) (hg:gdT ops st g=true) (hd:Zx st d=true) (hq:zIw T st t x y=some (s,i)) (hown:s.own=true) (hr:s.r.eqb (.slot d)=false) (hi:IsE s.es i e) (hj:i.toNat=j)
  (hst:st.put d (.adr s.r (s.q++[(s.o,j)]) s.sz 0)=st') (hk:LAt P cx ops (n+1) st' K):LAt P cx ops n st K:=by
 subst hst;subst hj
 refine Yb hop hg hd (fun o ho hdst _=>?_) hk
 unfold zIw at hq
 split at hq
 ·rename_i et ht
  split at hq
  ·rename_i ie he
   split at hq
   ·rename_i s' hx
    split at hq
    ·rename_i k i' hy
     cases hs:(s'.sz==ie.size)with
     |false=>simp[hs]at hq
     |true=>
      simp only[hs,cond_true,Option.some.injEq,Prod.mk.injEq]at hq
      obtain⟨rfl,rfl⟩:=hq
      exact zJ1 hT ho hdst (qi hd) ht he hx (eq_of_beq hs) hy hown hi hr
    ·cases hq
   ·cases hq
  ·cases hq
 ·cases hq
def zLn(st:St)(x:Operand):Option (zn×List (Nat×Nat)×Nat×Nat×List CV):=match x with
 | .tmp t => match lk st.s t with
  |some (.adr r q m o)=>match rowOf st r with
   |some row=>some (r,q,m,o,row)
   |none=>none
  |_=>none
 |_=>none
theorem zSB{st:St}{x:Operand}{r:zn}{q:List (Nat×Nat)}{m o:Nat}{row e:List CV}(h:zLn st x=some (r,q,m,o,row))(hg:zAM row q=some e)(hm:e.length=m)(hq:q≠ []):adS st x=some ⟨r,q,o,e⟩:=by
 unfold zLn at h
 split at h
 ·rename_i t
  split at h
  ·rename_i r' q' m' o' hl
   split at h
   ·rename_i row' hrow
    simp only[Option.some.injEq,Prod.mk.injEq]at h
    obtain⟨rfl,rfl,rfl,rfl,rfl⟩:=h
    have hne:q'.isEmpty=false:=by cases q' with|nil=>exact absurd rfl hq|cons a b=>rfl
    simp only[adS,hl,hrow,hg,hne,hm,Bool.not_false,Bool.true_and,beq_self_eq_true,cond_true]
   ·cases h
  ·cases h
 ·cases h
theorem zRJ{P:Program}{cx:Cx}{T:Nat→Option TI}(hT:TOk P T){ops:Array Oper}{n:Nat}{st:St}{K:St→Prop}{t ty:TypeId}{x:Operand}{d:Nat}{g:Option (Nat×Bool)}(i:TI)(r:zn)(q:List (Nat×Nat))(m o:Nat)(row e:List CV)(st':St)
  (hop:opAt ops n=some (.load t x,some d,ty,g)) (hg:gdT ops st g=true) (hd:Zx st d=true) (ht:T t=some i) (hx:zLn st x=some (r,q,m,o,row)) (hge:zAM row q=some e) (hm:e.length=m) (hq:q≠ []) (hr:r.eqb (.slot d)=false)
  (hl:(((e.drop o).take i.size).length==i.size)=true) (hst:st.put d (bif zZ ((e.drop o).take i.size)then .val i.ag ((e.drop o).take i.size)else .ref r q m o i.size i.ag)=st') (hk:LAt P cx ops (n+1) st' K):LAt P cx ops n st K:=by
 subst hst;subst hm
 exact Yb hop hg hd (fun o' ho hdst _=>zQZ hT ho hdst (qi hd) ht (zSB hx hge rfl hq) rfl (eq_of_beq hl) hr) hk
def St.modRX(kd:Bool)(st:St)(r:zn)(cs':List CV):Option St:=match r with
 |.slot t=>match lk st.s t with
  |some (.val ag _)=>some { st with s:=(t,.val ag cs')::bif kd then zOU t (zHs (.slot t) st.s)else zEQ (.slot t) st.s }
  |_=>none
 |.box k=>match lk st.b k with
  |some _=>some { st with s:=bif kd then zHs (.box k) st.s else St.modR.dropD (.box k) st.s,b:=(k,cs')::zHr (.box k) st.b }
  |none=>none
def zE7(st:St):zn→Option (List CV)
 |.slot t=>match lk st.s t with
  |some (.val _ cs)=>some cs
  |_=>none
 |.box k=>lk st.b k
def zPu:zn→List (Nat×Nat)→Option (List (Nat×Nat))
 |.slot _,q=>some q
 |.box _,(0,0)::q=>some q
 |.box _,_=>none
theorem zQY{kd:Bool}{st:St}{r:zn}{q q':List (Nat×Nat)}{f:List CV→List CV}{cs cs':List CV}(hr:zE7 st r=some cs)(hq:zPu r q=some q')(hm:zC1 f cs q'=cs'):st.modR kd r q f=st.modRX kd r cs':=by
 subst hm
 cases r with
 | slot t =>
  simp only[zE7]at hr
  simp only[zPu,Option.some.injEq]at hq
  subst hq
  split at hr
  ·rename_i ag cs0 hl
   cases hr
   simp only[St.modR,St.modRX,hl]
  ·cases hr
 | box k =>
  simp only[zE7]at hr
  unfold zPu at hq
  split at hq
  ·rename_i e2;cases e2
  ·rename_i e2
   cases hq;cases e2
   simp only[St.modR,St.modRX,hr]
  ·cases hq
theorem Ym{P:Program}{cx:Cx}{T:Nat→Option TI}(hT:TOk P T){ops:Array Oper}{n:Nat}{st:St}{K:St→Prop}{op:BinOp}{t ty ty':TypeId}{x y:Operand}{d:Nat}{g:Option (Nat×Bool)}(vx vy v:Value){φ:Prop}(st':St)
  (hop:opAt ops n=some (.binOp op t x y ty,some d,ty',g)) (hg:gdT ops st g=true) (hd:Zx st d=true) (hx:Ql st x=some vx) (hy:Ql st y=some vy) (hb:zSE (isBool T t) op vx vy=some (φ,v)) (hφ:φ) (hst:st.put d (.val false [.lit v])=st')
  (hk:LAt P cx ops (n+1) st' K):LAt P cx ops n st K:=by
 subst hst
 exact Yb hop hg hd (fun o ho hdst _=>zSQ hT ho hdst (qi hd) hx hy hb hφ) hk
theorem zMj{P:Program}{cx:Cx}{T:Nat→Option TI}(hT:TOk P T){ops:Array Oper}{n:Nat}{st:St}{K:St→Prop}{t ty e:TypeId}{x:Operand}{d:Nat}{g:Option (Nat×Bool)}(s:zFp)(l:Nat)(st':St)
  (hop:opAt ops n=some (.call { callee:=.builtin .len,args:= #[x],argTypes:= #[t] },some d,ty,g)) (hg:gdT ops st g=true) (hd:Zx st d=true) (ht:zCO T t=some e) (hx:slS st x=some s) (hl:s.es.length=l)
  (hst:st.put d (.val false [.lit (.int .i64 l)])=st') (hk:LAt P cx ops (n+1) st' K):LAt P cx ops n st K:=by
 subst hst;subst hl
 exact Yb hop hg hd (fun o ho hdst _=>zQH hT ho hdst (qi hd) ht hx) hk
theorem zR7{P:Program}{cx:Cx}{T:Nat→Option TI}(hT:TOk P T){ops:Array Oper}{n:Nat}{st:St}{K:St→Prop}{t ty e:TypeId}{x y:Operand}{d:Nat}{g:Option (Nat×Bool)}(ie:TI)(kl kc:IntKind)(l c:Int)(es:List (List CV))(st':St)
  (hop:opAt ops n=some (.makeSlice t x y,some d,ty,g)) (hg:gdT ops st g=true) (hd:Zx st d=true) (ht:zCO T t=some e) (he:T e=some ie) (hx:Ql st x=some (.int kl l)) (hy:Ql st y=some (.int kc c))
  (h0:0≤l) (hlc:l≤c) (hby:(ie.bytes:Int)*c≤281474976710656) (h63:c≤9223372036854775807) (hes:List.replicate l.toNat ie.zero=es) (hst:st.put d (.val false [.sl true ie.size es])=st') (hk:LAt P cx ops (n+1) st' K):LAt P cx ops n st K:=by
 subst hst;subst hes
 exact Yb hop hg hd (fun o ho hdst _=>zNs hT ho hdst ht he (qi hd) hx hy h0 hlc hby h63) hk
theorem zR5{P:Program}{cx:Cx}{T:Nat→Option TI}(hT:TOk P T){ops:Array Oper}{n:Nat}{st:St}{K:St→Prop}{t ty e:TypeId}{x y:Operand}{d:Nat}{g:Option (Nat×Bool)}(ie:TI)(tk:Tk)(es es':List (List CV))(s:zFp)(st':St)
  (hop:opAt ops n=some (.call { callee:=.builtin .append,args:= #[x,y],argTypes:= #[t,t] },some d,ty,g)) (hg:gdT ops st g=true) (hd:Zx st d=true) (ht:zCO T t=some e) (he:T e=some ie) (hpos:Nat.ble 1 ie.size=true)
  (hx:Yp T st t x=some tk) (hag:tk.ag=false) (hcs:tk.cs=[.sl true ie.size es]) (hd':Zx tk.st d=true) (hy:slS tk.st y=some s) (hsz:s.sz=ie.size) (hflat:∀e∈s.es,zZ e=true)
  (hm:es.length+s.es.length≤maxLen) (hb:(es.length+s.es.length)*ie.bytes≤140737488355328) (hes:es++s.es=es') (hst:tk.st.put d (.val false [.sl true ie.size es'])=st') (hk:LAt P cx ops (n+1) st' K):LAt P cx ops n st K:=by
 subst hst;subst hes
 exact Yb hop hg hd (fun o ho hdst _=>zPk hT ho hdst ht he (Nat.le_of_ble_eq_true hpos) hx hag hcs (qi hd') hy hsz hflat hm hb) hk
theorem zR6{P:Program}{cx:Cx}{T:Nat→Option TI}(hT:TOk P T){ops:Array Oper}{n:Nat}{st:St}{K:St→Prop}{t ty e:TypeId}{x y:Operand}{d:Nat}{g:Option (Nat×Bool)}(ie:TI)(tk tk2:Tk)(es es2 es':List (List CV))(own2:Bool)(st':St)
  (hop:opAt ops n=some (.call { callee:=.builtin .append,args:= #[x,y],argTypes:= #[t,t] },some d,ty,g)) (hg:gdT ops st g=true) (hd:Zx st d=true) (ht:zCO T t=some e) (he:T e=some ie) (hpos:Nat.ble 1 ie.size=true)
  (hx:Yp T st t x=some tk) (hag:tk.ag=false) (hcs:tk.cs=[.sl true ie.size es]) (hy:Yp T tk.st t y=some tk2) (hag2:tk2.ag=false) (hcs2:tk2.cs=[.sl own2 ie.size es2]) (hd':Zx tk2.st d=true)
  (hm:es.length+es2.length≤maxLen) (hb:(es.length+es2.length)*ie.bytes≤140737488355328) (hes:es++es2=es') (hst:tk2.st.put d (.val false [.sl true ie.size es'])=st') (hk:LAt P cx ops (n+1) st' K):LAt P cx ops n st K:=by
 subst hst;subst hes
 exact Yb hop hg hd (fun o ho hdst _=>zPl hT ho hdst ht he (Nat.le_of_ble_eq_true hpos) hx hag hcs hy hag2 hcs2 (qi hd') hm hb) hk
def zJR(T:Nat→Option TI)(ms:List Mode)(as:List Operand)(ats:List TypeId)(d:Option Nat)(rets:List Ret)(st:St):Option (List JX×List zn×St):=match zPp T ms as ats st with
 |some (ps,brs,none,st1)=>match zFv st1 d rets with
  |some st3=>some (ps,brs,st3)
  |none=>none
 |_=>none
theorem zRH{P:Program}{cx:Cx}{T:Nat→Option TI}(hT:TOk P T){ops:Array Oper}{i:Nat}{st:St}{K:St→Prop}(ms:List Mode){f:FuncId}{av:Array Operand}{ats:Array TypeId}{d:Option Nat}{ty:TypeId}{g:Option (Nat×Bool)}
  (hop:opAt ops i=some (.call { callee:=.value (.func f),args:=av,argTypes:=ats },d,ty,g)) (hg:gdT ops st g=true) (hd:(match d with|some d=>Zx st d|none=>true)=true) {ps:List JX} (brs:List zn) (st3 st4:St) {rets:List Ret}
  (hL:zb P f ps rets []) (hq:zJR T ms av.toList ats.toList d rets st=some (ps,brs,st3)) (hmine:brs=[]∨∀r∈rets,r.mine) (hst:st3=st4) (hk:LAt P cx ops (i+1) st4 K):LAt P cx ops i st K:=by
 subst hst
 unfold zJR at hq
 split at hq
 ·rename_i ps' brs' st1 hpre
  split at hq
  ·rename_i st3' hput
   cases hq
   exact LAt.call hT hop hg hd ms hL hpre (hmine.imp id fun h=>⟨h,fun i out hm=>by cases hm⟩) (by unfold zM9 zCP;exact hput) hk
  ·cases hq
 ·cases hq
def St.pick(ls bs:List Nat)(st:St):St:= { st with s:=ls.filterMap fun t=>(lk st.s t).map fun v=>(t,v),b:=bs.filterMap fun t=>(lk st.b t).map fun v=>(t,v) }
theorem zPH{α:Type}{l:List (Nat×α)}{ls:List Nat}{t:Nat}{x:α}(h:(t,x)∈ls.filterMap fun t=>(lk l t).map fun v=>(t,v)):(t,x)∈l:=by
 obtain⟨u,_,h2⟩:=List.mem_filterMap.1 h
 cases hl:lk l u with
 |none=>rw[hl]at h2;cases h2
 |some v=>rw[hl]at h2;cases h2;exact zw hl
theorem za{st st':St}(ls bs:List Nat)(h:st.pick ls bs=st'):st'.sub st:=by
 subst h
 exact⟨rfl,rfl,fun t sv hm=>zPH hm,fun k cs hm=>zPH hm⟩
theorem zN4{P:Program}{cx:Cx}{T:Nat→Option TI}(hT:TOk P T){ops:Array Oper}{n:Nat}{st:St}{K:St→Prop}{t ty e:TypeId}{x:Operand}{d:Nat}{g:Option (Nat×Bool)}(ie:TI)(l:Int)(es:List (List CV))(st':St)
  (hop:opAt ops n=some (.makeSlice t x x,some d,ty,g)) (hg:gdT ops st g=true) (hd:Zx st d=true) (ht:zCO T t=some e) (he:T e=some ie) (hx:Ql st x=some (.int .i64 l)) (hG:(decide (0≤l)&&decide (l≤268435456))=true)
  (hb:Nat.ble ie.bytes 1048576=true) (hes:List.replicate l.toNat ie.zero=es) (hst:st.put d (.val false [.sl true ie.size es])=st') (hk:LAt P cx ops (n+1) st' K):LAt P cx ops n st K:=by
 rw[Bool.and_eq_true,decide_eq_true_eq,decide_eq_true_eq]at hG
 have hb:=Nat.le_of_ble_eq_true hb
 refine zR7 hT ie .i64 .i64 l l es st' hop hg hd ht he hx hx hG.1 (Int.le_refl _) ?_ (by omega) hes hst hk
 have h1:(ie.bytes:Int)*l≤1048576*l:=Int.mul_le_mul_of_nonneg_right (by omega) hG.1
 omega
theorem zRK{P:Program}{cx:Cx}{T:Nat→Option TI}{ops:Array Oper}{n:Nat}{st:St}{K:St→Prop}{ty:TypeId}{x:Operand}{d:Nat}{g:Option (Nat×Bool)}(tk:Tk)(st':St)
  (hop:opAt ops n=some (.assign x,some d,ty,g)) (hg:gdT ops st g=true) (hd:Zx st d=true) (hx:Yp T st ty x=some tk) (hd':Zx tk.st d=true) (hst:tk.st.put d (.val tk.ag tk.cs)=st') (hk:LAt P cx ops (n+1) st' K):LAt P cx ops n st K:=by
 subst hst
 refine Yb hop hg hd (fun o ho hdst hty=>zRn (.inr ho) hdst (by rw[hty];exact hx) (qi hd')) hk
def St.movT(st:St)(d t:Nat)(vs:List (Bool×List CV)):St:= { st with s:=(d,.tup vs)::zEQ (.slot d) (zEQ (.slot t) st.s) }
theorem zQa{P:Program}{cx:Cx}{st:St}{o:Oper}{t d:Nat}{vs:List (Bool×List CV)}(ho:o.op=.move (.tmp t)∨o.op=.assign (.tmp t))(hdst:o.dst=some d)(hd:st.okD d)(hx:lk st.s t=some (.tup vs))(hdt:d≠t):zCN P cx o st (st.movT d t vs):=by
 intro a w Z ω h
 obtain⟨us,g1,g2,g3⟩:=h.hs t _ (zw hx)
 have hrun:(execOp a.eval o).run P w=.ok (.value (.tuple us)) w:=by
  have he:a.eval (.tmp t)=.tuple us:=g1
  rcases ho with ho|ho<;>simp[execOp,ho,he]
 have hd':d<a.tmps.size:=by rw[h.nt];exact hd.2
 refine⟨.tuple us,w,Z,Jt [0,t] 0 vs.length [0,d] 0 ω,.inl hrun,?_⟩
 rw[hdst]
 refine h.step (fun r=>r=.slot d∨r=.slot t) ⟨fun b hb=>⟨hb,rfl⟩,fun r hr b x hb=>⟨?_,rfl⟩,fun t' ht'=>Zq (fun e=>ht' (.inl (by rw[e])))⟩ (h.inv.reloc _ _ _ _ _) (by rw[size_put];exact h.nt) (by rw[zE3];exact h.df) (fun t ht=>by rw[Zq (by have h1:=hd.1;have h0:t<st.lo:=ht;omega)];exact h.pin t ht)
  (fun t' sv hm'=>?_) (fun k' cs' hm'=>.inl ⟨hm',fun e=>e.elim (fun e=>by cases e) (fun e=>by cases e)⟩)
 ·refine qk hb ?_ ?_
  ·have:=Y2 (r:=.slot t) (fun e=>hr (.inr e)) (S:=[]) (o:=0) (n:=vs.length) (x:=x)
   simpa [zn.path]using this
  ·have:=Y2 (r:=.slot d) (fun e=>hr (.inl e)) (S:=[]) (o:=0) (n:=vs.length) (x:=x)
   simpa [zn.path]using this
 ·rcases List.mem_cons.1 hm' with e|hm'
  ·cases e
   right
   rw[Yq hd']
   refine⟨us,rfl,g2,fun k ag cs hk=>?_⟩
   obtain⟨u,f1,f2,f3⟩:=g3 k ag cs hk
   have hkl:=(List.getElem?_eq_some_iff.1 hk).1
   refine⟨u,f1,f2,f3.conv _ (fun b hb=>⟨hb,rfl⟩) fun b r hb=>⟨?_,rfl⟩⟩
   have:=zBq (S:=[0,t]) (D:=[0,d]) (o:=0) (o2:=0) (n:=vs.length) (j:=k) (r:=r) (ω:=ω) (b:=b) (by simpa using hb) hkl
   simpa using this
  ·left
   have h1:=QS hm'
   have h2:=QS h1.1
   refine⟨h2.1,?_⟩
   have a1:=QQ h1.2
   have a2:=QQ h2.2
   cases sv<;>simp only[SV.apart]at a1 a2⊢
   case ref=>exact⟨fun e=>e.elim a1.1 a2.1,fun e=>e.elim a1.2 a2.2⟩
   case adr=>exact⟨fun e=>e.elim a1.1 a2.1,fun e=>e.elim a1.2 a2.2⟩
   all_goals exact fun e=>e.elim a1 a2
theorem LAt.movT{P:Program}{cx:Cx}{T:Nat→Option TI}(hT:TOk P T){ops:Array Oper}{n:Nat}{st:St}{K:St→Prop}{op:Op}{ty:TypeId}{t d:Nat}{g:Option (Nat×Bool)}(vs:List (Bool×List CV))(st':St)
  (hop:opAt ops n=some (op,some d,ty,g)) (hm:op=.move (.tmp t)∨op=.assign (.tmp t)) (hg:gdT ops st g=true) (hd:Zx st d=true) (hx:lk st.s t=some (.tup vs)) (hdt:Nat.beq d t=false) (hst:st.movT d t vs=st') (hk:LAt P cx ops (n+1) st' K):LAt P cx ops n st K:=by
 subst hst
 exact Yb hop hg hd (fun o ho hdst _=>zQa (hm.imp (fun e=>ho.trans e) fun e=>ho.trans e) hdst (qi hd) hx (Nat.ne_of_beq_eq_false hdt)) hk
end Go.TL
