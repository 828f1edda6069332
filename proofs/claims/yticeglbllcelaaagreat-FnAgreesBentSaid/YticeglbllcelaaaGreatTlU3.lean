import Derived.Test.YticeglbllcelaaaGreatTlU2
set_option linter.unusedVariables false
namespace Go.TL
theorem YB{α:Type}{c:Bool}{x y:Option α}{r:Option α}(h:c=true)(H:(bif c then x else y)=r):x=r:=by rw[h]at H;exact H
theorem YA{α:Type}{c:Bool}{x y:Option α}{r:Option α}(h:c=false)(H:(bif c then x else y)=r):y=r:=by rw[h]at H;exact H
def zGL(T:Nat→Option TI)(ms:List Mode)(as:List Operand)(ats:List TypeId)(d:Option Nat)(rets:List Ret)(outs:List (Nat×List CV))(st:St):Option (List JX×List zn×St):=match zPp T ms as ats st with
 |some (ps,brs,ld,st1)=>match zM9 st1 ld outs d rets with
  |some st3=>some (ps,brs,st3)
  |none=>none
 |none=>none
def zG4(T:Nat→Option TI)(ms:List Mode)(as:List Operand)(ats:List TypeId)(d:Option Nat)(rets:List Ret)(outs:List (Nat×List CV))(st:St):St:=match zGL T ms as ats d rets outs st with
 |some x=>x.2.2
 |none=>st
theorem zN2{P:Program}{cx:Cx}{T:Nat→Option TI}(hT:TOk P T){ops:Array Oper}{i:Nat}{st:St}{K:St→Prop}(ms:List Mode){f:FuncId}{av:Array Operand}{ats:Array TypeId}{d:Option Nat}{ty:TypeId}{g:Option (Nat×Bool)}
  (hop:opAt ops i=some (.call { callee:=.value (.func f),args:=av,argTypes:=ats },d,ty,g)) (hg:gdT ops st g=true) (hd:(match d with|some d=>Zx st d|none=>true)=true) {ps:List JX} (brs:List zn) {rets:List Ret} {outs:List (Nat×List CV)}
  (hL:zb P f ps rets outs) (hq:(zGL T ms av.toList ats.toList d rets outs st).map (fun x=>(x.1,x.2.1))=some (ps,brs)) (hmine:brs=[]∨((∀r∈rets,r.mine)∧∀i out,(i,out)∈outs→z5 out)) (hk:LAt P cx ops (i+1) (zG4 T ms av.toList ats.toList d rets outs st) K):LAt P cx ops i st K:=by
 unfold zG4 at hk
 cases hc:zGL T ms av.toList ats.toList d rets outs st with
 |none=>rw[hc]at hq;cases hq
 | some x =>
  obtain⟨ps',brs',st3⟩:=x
  rw[hc]at hq hk
  cases hq
  unfold zGL at hc
  split at hc
  ·rename_i ps1 brs1 ld st1 hpre
   split at hc
   ·rename_i st3' hpost
    cases hc
    exact LAt.call hT hop hg hd ms hL hpre hmine hpost hk
   ·cases hc
  ·cases hc
def boxKS(T:Nat→Option TI)(st:St)(t:TypeId)(x d:Nat):Option St:=match lk st.s x with
 |some (.val ag cs)=>match Yp T st t (.tmp x)with
  |some tk=>bif Zx tk.st d&& !(x==d)then some { tk.st.newBox d tk.cs with s:=(x,.ref (.box d) [(0,0)] cs.length 0 cs.length ag)::(tk.st.newBox d tk.cs).s } else none
  |none=>none
 |_=>none
theorem zH0{P:Program}{cx:Cx}{ops:Array Oper}{i:Nat}{st:St}{K:St→Prop}(neg:Bool){t ty ty':TypeId}{x y:Operand}{d:Nat}{g:Option (Nat×Bool)}(b:Bool)(st':St)(hop:opAt ops i=some (.binOp (bif neg then .neq else .eql) t x y ty,some d,ty',g))(hg:gdT ops st g=true)(hd:Zx st d=true)
  (hb:TL.eqS P st t x y=some b) (hst:st.put d (.val false [.lit (.bool (bif neg then !b else b))])=st') (hk:LAt P cx ops (i+1) st' K):LAt P cx ops i st K:=by
 subst hst
 exact Yb hop hg hd (fun o ho hdst _=>zTn ho hdst hd hb) hk
def zT2(st:St):Option Operand→Option Int
 |none=>some 0
 |some y=>match Ql st y with
  |some (.int _ i)=>some i
  |_=>none
def zT1(st:St)(len:Nat):Option Operand→Option Int
 |none=>some len
 |some y=>match Ql st y with
  |some (.int _ i)=>some i
  |_=>none
theorem zNI{st:St}{y:Operand}{l:Int}(h:zT2 st (some y)=some l)(h0:0≤l):∃k,Ql st y=some (.int k (l.toNat:Int)):=by
 unfold zT2 at h
 simp only at h
 split at h
 ·rename_i k i hy
  cases h
  exact⟨k,by rw[hy,Int.toNat_of_nonneg h0]⟩
 ·cases h
theorem zNH{st:St}{y:Operand}{len:Nat}{l:Int}(h:zT1 st len (some y)=some l)(h0:0≤l):∃k,Ql st y=some (.int k (l.toNat:Int)):=by
 unfold zT1 at h
 simp only at h
 split at h
 ·rename_i k i hy
  cases h
  exact⟨k,by rw[hy,Int.toNat_of_nonneg h0]⟩
 ·cases h
theorem qd{P:Program}{cx:Cx}{T:Nat→Option TI}(hT:TOk P T){ops:Array Oper}{n:Nat}{st:St}{K:St→Prop}{t ty e:TypeId}{x:Operand}{lo hi:Option Operand}{d:Nat}{g:Option (Nat×Bool)}(ie:TI){α:Type}(row:α→List CV)(X:List α)(s:zFp)(l h:Int)
  (hop:opAt ops n=some (.slice t x lo hi none,some d,ty,g)) (hg:gdT ops st g=true) (hd:Zx st d=true) (ht:zCO T t=some e) (he:T e=some ie) (hx:slS st x=some s) (hown:s.own=false) (hsz:Nat.beq s.sz ie.size=true) (hes:s.es=zQ (X.map row))
  (hl:zT2 st lo=some l) (hh:zT1 st X.length hi=some h) (hG:(decide (0≤l)&&(decide (l≤h)&&decide (h≤(X.length:Int))))=true) (hk:LAt P cx ops (n+1) (st.put d (.val false [.sl false s.sz (zQ (((X.drop l.toNat).take (h.toNat-l.toNat)).map row))])) K):LAt P cx ops n st K:=by
 rw[Bool.and_eq_true,Bool.and_eq_true,decide_eq_true_eq,decide_eq_true_eq,decide_eq_true_eq]at hG
 have hlen:s.es.length=X.length:=by rw[hes,CV.frzEs_length,List.length_map]
 have hcut:zQ (((X.drop l.toNat).take (h.toNat-l.toNat)).map row)=(s.es.drop l.toNat).take (h.toNat-l.toNat):=by
  rw[hes,CV.frzEs_eq,CV.frzEs_eq,List.map_take,List.map_drop,List.map_take,List.map_drop]
 rw[hcut]at hk
 have hsz:=Nat.eq_of_beq_eq_true hsz
 refine Yb hop hg hd (fun o ho hdst _=>?_) hk
 have h1:l.toNat≤h.toNat:=by omega
 have h2:h.toNat≤s.es.length:=by rw[hlen];omega
 cases lo with
 | none =>
  have hl0:l.toNat=0:=by have:(0:Int)=l:=Option.some.inj hl;omega
  cases hi with
  |none=>
   have hh0:h.toNat=s.es.length:=by have:(X.length:Int)=h:=Option.some.inj hh;omega
   exact zMA hT ho hdst ht he (qi hd) hx hown hsz hl0 hh0 h1 h2
  |some y=>exact zMA hT ho hdst ht he (qi hd) hx hown hsz hl0 (zNH hh (by omega)) h1 h2
 | some x2 =>
  cases hi with
  |none=>
   have hh0:h.toNat=s.es.length:=by have:(X.length:Int)=h:=Option.some.inj hh;omega
   exact zMA hT ho hdst ht he (qi hd) hx hown hsz (zNI hl hG.1) hh0 h1 h2
  |some y=>exact zMA hT ho hdst ht he (qi hd) hx hown hsz (zNI hl hG.1) (zNH hh (by omega)) h1 h2
def zQT(T:Nat→Option TI)(rs:List ResultVar)(ios:List Nat)(st:St):Option (List (Option (Bool×List CV))×St):=match zPb T st.n rs st.n { st with n:=st.n+rs.length } with
 |some (xs,st1)=>match zCQ T ((xs++ios.map Operand.tmp).map fun x=>(Mode.own,0,x)) 0 st1 with
  |some (l,st2)=>bif st2.lo==st.lo&&Nat.ble st.lo st.n then some (l,st2)else none
  |none=>none
 |none=>none
def zUp(args:List JX)(i:Nat):Bool:=match args[i]? with
 |some (.io _ _)=>true
 |_=>false
def zSX(args:List JX)(i:Nat):Bool:=match args[i]? with
 |some (.ptr _)=>true
 |_=>false
theorem zS0{T:Nat→Option TI}{rs:List ResultVar}{args:List JX}{ios:List Nat}{st:St}(rets rets':List (Bool×List CV))(ags:List Bool)(iout iout':List (List CV))(pouts pouts':List (Nat×List CV))
  (h:(zQT T rs ios st).map (fun x=>x.1)=some ((rets'++List.zip ags iout').map some)) (hl:rets'.length=rs.length) (ha:ags.length=ios.length) (hi:iout'.length=ios.length) (hio:(ios.all fun i=>Nat.blt i st.lo&&zUp args i)=true)
  (hp1:(pouts'.all fun x=>Nat.blt x.1 st.lo&&zSX args x.1)=true) (hp2:(zQT T rs ios st).map (fun x=>pouts'.map fun y=>lk x.2.s y.1)=some (pouts'.map fun x=>some (.adr (.box x.1) [(0,0)] x.2.length 0))) (hp3:(zQT T rs ios st).map (fun x=>pouts'.map fun y=>lk x.2.b y.1)=some (pouts'.map fun x=>some x.2))
  (e1:rets'=rets) (e2:iout'=iout) (e3:pouts'=pouts):Fin T rs args ios rets iout pouts st:=by
 subst e1;subst e2;subst e3
 cases hf:zQT T rs ios st with
 |none=>rw[hf]at h;cases h
 | some x =>
  obtain⟨l,st2⟩:=x
  rw[hf]at h hp2 hp3
  simp only[Option.map_some,Option.some.injEq]at h hp2 hp3
  subst h
  unfold zQT at hf
  split at hf
  ·rename_i xs st1 h1
   split at hf
   ·rename_i l2 st2' h2
    cases hc:(st2'.lo==st.lo&&Nat.ble st.lo st.n)with
    |false=>simp[hc]at hf
    | true =>
     simp only[hc,cond_true,Option.some.injEq,Prod.mk.injEq]at hf
     obtain⟨rfl,rfl⟩:=hf
     rw[Bool.and_eq_true]at hc
     have hlo:st2'.lo=st.lo:=eq_of_beq hc.1
     refine⟨xs,st1,ags,st2',h1,h2,hl,ha,hi,Nat.le_of_ble_eq_true hc.2,hlo,fun i hm=>?_,fun i out hm=>?_⟩
     ·rw[List.all_eq_true]at hio
      have:=hio i hm
      rw[Bool.and_eq_true]at this
      refine⟨Nat.le_of_ble_eq_true this.1,?_⟩
      have h3:=this.2
      unfold zUp at h3
      split at h3
      ·rename_i ag cs e;exact⟨ag,cs,e⟩
      ·cases h3
     ·rw[List.all_eq_true]at hp1
      have:=hp1 _ hm
      rw[Bool.and_eq_true]at this
      have e2:=zHw hp2 _ hm
      have e3:=zHw hp3 _ hm
      refine⟨⟨by rw[hlo];exact Nat.le_of_ble_eq_true this.1,e2,e3⟩,?_⟩
      have h3:=this.2
      unfold zSX at h3
      split at h3
      ·rename_i cs e;exact⟨cs,e⟩
      ·cases h3
   ·cases hf
  ·cases hf
def finP(k:Nat)(cs:List CV)(t:Nat):Exit→St→Prop
 |.normal,st|.ret,st=>lk st.s t=some (.adr (.box k) [(0,0)] cs.length 0)∧lk st.b k=some cs
 |_,_=>False
def zSS(k:Nat)(ω:Own):Own:=fun b=>match ω b with
 |some (1::i::y)=>if i=k then some (2::0::y)else none
 |_=>none
theorem zJ6{k:Nat}{ω:Own}{b:Nat}{p:Zu}(h:zSS k ω b=some p):∃y,ω b=some (1::k::y)∧p=2::0::y:=by
 unfold zSS at h
 split at h
 ·rename_i i y hb
  split at h
  ·rename_i hik;subst hik;cases h;exact⟨y,hb,rfl⟩
  ·cases h
 ·cases h
theorem zIu {P : Program} {T : Nat → Option TI} (hT : TOk P T) {f : FuncId} {fn : Func} {c : Code} {args : List JX} (hf : P.funcs[f]? = some fn) (hname : (fn.name == "runtime.NumGoroutine") = false) (hb : fn.body = some c)
  (hn:args.length≤fn.ntmps) (t k:Nat) (hrs:fn.results= #[.tmp t]) (cs:List CV) (h:∀cx,Tr P cx c (zLC fn.ntmps 0 args) (finP k cs t)):zb P f args [.ptr cs] []:=by
 refine⟨⟨fn,hf,hname,by rw[hb];rfl⟩,fun w Z ω vals hI hs ha=>?_⟩
 refine calls_of_wp hf hb ?_
 refine wp_mono (h _ _ _ _ _ (zPQ (lo:=0) hI hs hn ha)) fun e a w' ⟨st',Z',ω',hq,hR'⟩=>?_
 have key:lk st'.s t=some (.adr (.box k) [(0,0)] cs.length 0)∧lk st'.b k=some cs→a.defers=[]∧∃v,(results fn a.tmps).run P w'=.ok v w'∧∃v' Z2 ω2,Ending.returned v=.returned v'∧Inv ⟨w,Z,ω,vals⟩ w' Z2 ω2∧zGK w' Z2 ω2 v' [.ptr cs]∧
   ∀i out,(i,out)∈([]:List (Nat×List CV))→zJH w' Z2 ω2 vals args i out:=by
  rintro⟨h1,h2⟩
  obtain⟨b,e1,e2⟩:=hR'.hs t _ (zw h1)
  obtain⟨u,hu⟩:=hR'.hb k cs (zw h2)
  have e1:ω' b=some [1,k,0]:=by simpa [zn.path,spine,ZH]using e1
  have hsub:∀b p,zSS k ω' b=some p→∃q,ω' b=some q:=fun b p hb=>by obtain⟨y,h1,_⟩:=zJ6 hb;exact⟨_,h1⟩
  refine⟨hR'.df,a.tmps.getD t undef,?_,_,Z',zSS k ω',rfl,?_,⟨b,by rw[e2];simp[ZH],by simp[zSS,e1],u,?_⟩,fun i out hm=>by cases hm⟩
  ·have:=zKS (P:=P) (fn:=fn) (tm:=a.tmps) (w:=w') (us:=[a.tmps.getD t undef]) (by rw[hrs];simp[zJK])
   rw[this]
   simp
  ·refine { hR'.inv with wold:=fun b p hb=>?_,disj:=fun b p hz hb=>?_,inj:=fun b b' p h1 h2=>?_,lt:=fun b p hb=>?_ }
   ·obtain⟨q,hq⟩:=hsub b p hb;exact hR'.inv.wold b q hq
   ·obtain⟨q,hq⟩:=hsub b p hb;exact hR'.inv.disj b q hz hq
   ·obtain⟨y,k1,k2⟩:=zJ6 h1
    obtain⟨y',k3,k4⟩:=zJ6 h2
    rw[k2]at k4
    cases k4
    exact hR'.inv.inj _ _ _ k1 k3
   ·obtain⟨q,hq⟩:=hsub b p hb;exact hR'.inv.lt b q hq
  ·refine hu.conv _ (fun b hb=>⟨hb,rfl⟩) fun b r hb=>⟨?_,rfl⟩
   simp only[List.cons_append,List.nil_append]at hb⊢
   simp[zSS,hb]
 cases e with
 |normal=>exact key hq
 |ret=>exact key hq
 |_=>exact hq.elim
def zM7(k:Nat):SV→Bool
 |.ref r q _ _ _ _|.adr r q _ _=> !(r.eqb (.box k))||(match q with|[(0,0)]=>true|_=>false)
 |_=>true
def St.frzB(st:St)(k:Nat):St:=match lk st.b k with
 |some cs=> { st with s:=st.s.filter fun x=>zM7 k x.2,b:=(k,qh cs)::zHr (.box k) st.b }
 |none=>st
def zSN(k:Nat)(ω:Own):Own:=fun b=>match ω b with
 |some p=>(match strip [1,k,0] p with
  |some (_::_)=>none
  |_=>some p)
 |none=>none
theorem zGD{k:Nat}{ω:Own}{b:Nat}{p:Zu}(h:zSN k ω b=some p):ω b=some p∧∀y r,p≠ [1,k,0]++y::r:=by
 unfold zSN at h
 split at h
 ·rename_i q hq
  split at h
  ·cases h
  ·rename_i hn
   cases h
   exact⟨hq,fun y r e=>hn y r (zBr.2 e)⟩
 ·cases h
theorem zHx{k:Nat}{ω:Own}{b:Nat}{p:Zu}(h:ω b=some p)(hp:∀y r,p≠ [1,k,0]++y::r):zSN k ω b=some p:=by
 unfold zSN
 rw[h]
 simp only
 split
 ·rename_i y r hs;exact absurd (zBr.1 hs) (hp y r)
 ·rfl
theorem Rel.freezeBox{cx st a w Z ω}(h:Rel cx st a w Z ω){k:Nat}{cs:List CV}(hl:lk st.b k=some cs):∃Z' ω',Rel cx (st.frzB k) a w Z' ω':=by
 unfold St.frzB
 rw[hl]
 obtain⟨u,hu⟩:=h.hb k cs (zw hl)
 let Z1:JI:=fun b=>Z b∨∃y r,ω b=some ([1,k,0]++y::r)
 have inv':Inv cx w Z1 (zSN k ω):=
  { h.inv with
   zsub:=fun b hb=>.inl (h.inv.zsub b hb)
   zold:=fun b hb hlt h0=>by
    rcases hb with hb|⟨y,r,hb⟩
    ·exact h.inv.zold b hb hlt h0
    ·exact absurd h0 (h.inv.wold b _ hb hlt)
   wold:=fun b p hb hlt=>h.inv.wold b p (zGD hb).1 hlt
   disj:=fun b p hz hb=>by
    obtain⟨k1,k2⟩:=zGD hb
    rcases hz with hz|⟨y,r,hz⟩
    ·exact h.inv.disj b p hz k1
    ·rw[k1]at hz;exact k2 y r (Option.some.inj hz)
   inj:=fun b b' p h1 h2=>h.inv.inj _ _ _ (zGD h1).1 (zGD h2).1
   lt:=fun b p hb=>h.inv.lt b p (zGD hb).1
   zlt:=fun b hb=>by
    rcases hb with hb|⟨y,r,hb⟩
    ·exact h.inv.zlt b hb
    ·exact h.inv.lt b _ hb }
 refine⟨Z1,zSN k ω,h.step (· =.box k) ⟨fun b hb=>⟨.inl hb,rfl⟩,fun r hr b x hb=>⟨zHx hb fun y s e=>?_,rfl⟩,fun _ _=>rfl⟩ inv' h.nt h.df h.pin (fun t sv hm=>?_) (fun k' cs' hm=>?_)⟩
 ·exact hr (Zw (r:=r) (s:=.box k) (x:=x) (y:=0::y::s) e).1
 ·obtain⟨hm,hk⟩:=List.mem_filter.1 hm
  cases sv with
  |val ag cs=>exact .inl ⟨hm,by intro e;cases e⟩
  |fad cs=>exact .inl ⟨hm,by intro e;cases e⟩
  |tup vs=>exact .inl ⟨hm,by intro e;cases e⟩
  | adr r q m o =>
   cases hr:r.eqb (.box k)with
   |false=>exact .inl ⟨hm,ZI hr,by intro e;cases e⟩
   | true =>
    simp only[zM7,hr,Bool.not_true,Bool.false_or]at hk
    split at hk
    ·rename_i hq
     obtain⟨b,e1,e2⟩:=h.hs t _ hm
     have:r=.box k:=zAj.1 hr
     subst this
     right
     exact⟨b,zHx e1 (fun y s e=>by simp[zn.path,spine]at e),e2⟩
    ·cases hk
  | ref r q m o n ag =>
   cases hr:r.eqb (.box k)with
   |false=>exact .inl ⟨hm,ZI hr,by intro e;cases e⟩
   | true =>
    simp only[zM7,hr,Bool.not_true,Bool.false_or]at hk
    split at hk
    ·rename_i hq
     obtain⟨e1,e2,e3⟩:=h.hs t _ hm
     have:r=.box k:=zAj.1 hr
     subst this
     right
     refine⟨e1,e2,fun j u hju=>?_⟩
     obtain⟨b,cur,T,f1,f2,f3⟩:=e3 j u hju
     exact⟨b,cur,T,zHx f1 (fun y s e=>by simp[zn.path,spine]at e),f2,f3⟩
    ·cases hk
 ·rcases List.mem_cons.1 hm with e|hm
  ·cases e
   right
   refine⟨u,?_⟩
   refine⟨by simp,fun j c v hc hv=>?_⟩
   cases j with
   |succ j=>simp at hc
   | zero =>
    simp only[List.getElem?_cons_zero,Option.some.injEq]at hc
    have hc: .sl true (qh cs).length [qh cs]=c:=hc
    subst hc
    have h0:=hu.2 0 _ v rfl hv
    rw[show(qh cs).length=cs.length by rw[QC,List.length_map]]
    cases h0 with
    | own p b cap sz es us cur T hω hb hcap hm' hcs hsz hcc hr =>
     refine .own _ b cap _ [qh cs] us cur T (zHx hω (fun y s e=>by simp at e)) hb hcap hm' hcs (fun e he=>?_) (fun i j c hij=>?_) (fun i j c hij=>?_)
     ·rw[List.mem_singleton]at he
      subst he
      rw[QC,List.length_map]
     ·obtain⟨c0,e1,e2⟩:=JY (es:=[cs]) hij
      exact hcc i j c0 e1
     ·obtain⟨c0,e1,rfl⟩:=JY (es:=[cs]) hij
      refine(hr i j c0 e1).freeze _ (fun b hb=>⟨.inl hb,rfl⟩) fun b r hb=>⟨?_,rfl⟩
      obtain⟨x,g1,g2⟩:=JZ e1
      have hi0:i=0:=by
       cases i with
       |zero=>rfl
       |succ i=>simp at g1
      subst hi0
      exact .inr ⟨0,j::r,by rw[hb];simp⟩
  ·have:=zBB hm
   exact .inl ⟨this.1,ZI this.2⟩
theorem Tr.frzB{P:Program}{cx:Cx}{c:Code}{st:St}{Q:Exit→St→Prop}(k:Nat)(hk:Tr P cx c (st.frzB k) Q):Tr P cx c st Q:=fun a w Z ω hR=>by
 cases hl:lk st.b k with
 |none=>
  unfold St.frzB at hk
  rw[hl]at hk
  exact hk a w Z ω hR
 |some cs=>
  obtain⟨Z',ω',h1⟩:=hR.freezeBox hl
  exact hk a w Z' ω' h1
end Go.TL
