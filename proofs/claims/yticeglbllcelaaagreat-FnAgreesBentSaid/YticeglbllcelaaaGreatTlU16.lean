import Derived.Test.YticeglbllcelaaaGreatTlU15
set_option linter.unusedVariables false
namespace Go.TL
open Go
variable {P : Program} {cx : Cx} {T : Nat → Option TI} {ops : Array Oper} {st : St} {c : Code} {Q : Exit → St → Prop} {K : St → Prop} {i id : Nat}
theorem Inv.vals{cx cx':Cx}{w:World}{Z:JI}{ω:Own}(h:Inv cx w Z ω)(h1:cx.w0=cx'.w0)(h2:cx.Z0=cx'.Z0)(h3:cx.ω0=cx'.ω0):Inv cx' w Z ω:=by
 obtain⟨a,b,c,d⟩:=cx
 obtain⟨a',b',c',d'⟩:=cx'
 simp only at h1 h2 h3
 subst h1;subst h2;subst h3
 exact⟨h.os,h.tape,h.output,h.size,h.keep,h.zsub,h.zold,h.wold,h.disj,h.inj,h.lt,h.zlt⟩
theorem zSA(h:Tr P cx c { st with lo:=0 } Q):Tr P cx c st Q:=fun a w Z ω hR=>
 h a w Z ω ⟨hR.inv,hR.nt,hR.df,fun t ht=>absurd ht (Nat.not_lt_zero t),hR.hs,hR.hb⟩
theorem zR9(m:Nat)(h:∀vs:Array Value,Tr P ⟨cx.w0,cx.Z0,cx.ω0,vs⟩ c { st with lo:=m } (fun e s=>Q e { s with lo:=0 })):Tr P cx c st Q:=fun a w Z ω hR=>
 wp_mono (h a.tmps a w Z ω ⟨hR.inv.vals rfl rfl rfl,hR.nt,hR.df,fun _ _=>rfl,hR.hs,hR.hb⟩) fun e a' w' ⟨st',Z',ω',hq,hR'⟩=>
  ⟨{ st' with lo:=0 },Z',ω',hq,⟨hR'.inv.vals rfl rfl rfl,hR'.nt,hR'.df,fun t ht=>absurd ht (Nat.not_lt_zero t),hR'.hs,hR'.hb⟩⟩
def St.fadB(st:St)(t k:Nat)(cs:List CV):St:= { st with s:=(t,.fad cs)::zEQ (.box k) st.s,b:=zHr (.box k) st.b }
def zSR(k:Nat)(ω:Own):Own:=fun b=>match ω b with
 |some p=>(match strip [1,k] p with
  |some _=>none
  |none=>some p)
 |none=>none
theorem zGG{k:Nat}{ω:Own}{b:Nat}{p:Zu}(h:zSR k ω b=some p):ω b=some p∧∀r,p≠ [1,k]++r:=by
 unfold zSR at h
 split at h
 ·rename_i q hq
  split at h
  ·cases h
  ·rename_i hn
   cases h
   exact⟨hq,fun r e=>by rw[zBr.2 e]at hn;cases hn⟩
 ·cases h
theorem zQ0{k:Nat}{ω:Own}{b:Nat}{p:Zu}(h:ω b=some p)(hp:∀r,p≠ [1,k]++r):zSR k ω b=some p:=by
 unfold zSR
 rw[h]
 simp only
 split
 ·rename_i r hs;exact absurd (zBr.1 hs) (hp r)
 ·rfl
theorem Rel.fadBox{a w Z ω}(h:Rel cx st a w Z ω){t k:Nat}{cs:List CV}(ha:adS st (.tmp t)=some ⟨.box k,[(0,0)],0,cs⟩)(hf:zZ cs=true):∃Z' ω',Rel cx (st.fadB t k cs) a w Z' ω':=by
 obtain⟨b,cur,T',us,row,e1,e2,e3,e4,e5,e6,e7,e8⟩:=zEy h ha
 let Z1:JI:=fun b=>Z b∨∃r,ω b=some ([1,k]++r)
 have inv':Inv cx w Z1 (zSR k ω):=
  { h.inv with
   zsub:=fun b hb=>.inl (h.inv.zsub b hb)
   zold:=fun b hb hlt h0=>by
    rcases hb with hb|⟨r,hb⟩
    ·exact h.inv.zold b hb hlt h0
    ·exact absurd h0 (h.inv.wold b _ hb hlt)
   wold:=fun b p hb hlt=>h.inv.wold b p (zGG hb).1 hlt
   disj:=fun b p hz hb=>by
    obtain⟨k1,k2⟩:=zGG hb
    rcases hz with hz|⟨r,hz⟩
    ·exact h.inv.disj b p hz k1
    ·rw[k1]at hz;exact k2 r (Option.some.inj hz)
   inj:=fun b b' p h1 h2=>h.inv.inj _ _ _ (zGG h1).1 (zGG h2).1
   lt:=fun b p hb=>h.inv.lt b p (zGG hb).1
   zlt:=fun b hb=>by
    rcases hb with hb|⟨r,hb⟩
    ·exact h.inv.zlt b hb
    ·exact h.inv.lt b _ hb }
 refine⟨Z1,zSR k ω,h.step (· =.box k) ⟨fun b hb=>⟨.inl hb,rfl⟩,fun r hr b x hb=>⟨zQ0 hb fun s e=>?_,rfl⟩,fun _ _=>rfl⟩ inv' h.nt h.df h.pin (fun t' sv hm=>?_) (fun k' cs' hm=>?_)⟩
 ·exact hr (Zw (r:=r) (s:=.box k) (x:=x) (y:=s) e).1
 ·rcases List.mem_cons.1 hm with e|hm
  ·cases e
   right
   have e1':a.tmps.getD t undef=.pointer (some ⟨b,0,none⟩):=by
    show a.eval (.tmp t)= _
    rw[e1]
    simp[ZH]
   refine⟨⟨b,0,none⟩,rfl,e1',.inr ⟨[0],by simpa [zn.path,spine]using e2⟩,hf,fun j c hc=>?_⟩
   obtain⟨u,k1,k2⟩:=e8 j c hc
   rw[qp,List.all_eq_true]at hf
   refine⟨u,?_,k2.flat_conv (hf c (List.mem_of_getElem? hc)) _ fun b hb=>⟨.inl hb,rfl⟩⟩
   rw[zDH e3]
   simpa [ZH]using k1
  ·obtain⟨h1,h2⟩:=QS hm
   exact .inl ⟨h1,QQ h2⟩
 ·obtain⟨h1,h2⟩:=zBB hm
  exact .inl ⟨h1,ZI h2⟩
theorem Tr.fadB(t k:Nat)(cs:List CV)(hk:Tr P cx c (st.fadB t k cs) Q)(ha:adS st (.tmp t)=some ⟨.box k,[(0,0)],0,cs⟩:=by kernel_rfl)(hf:zZ cs=true:=by kernel_rfl):Tr P cx c st Q:=fun a w Z ω hR=>by
 obtain⟨Z',ω',h1⟩:=hR.fadBox ha hf
 exact hk a w Z' ω' h1
def zPA(vs:Array Value)(f:FuncId)(ks:List Nat):Value:=.func (.func f) #[] (ks.map fun k=>vs.getD k undef).toArray
theorem zPI{a w Z ω}(h:Rel cx st a w Z ω){ks:List Nat}(hlo:(ks.all fun k=>Nat.blt k st.lo)=true):ks.map (fun k=>cx.vals.getD k undef)=(ks.map Operand.tmp).map a.eval:=by
 rw[List.map_map]
 refine List.map_congr_left fun k hk=>?_
 have:=List.all_eq_true.1 hlo k hk
 exact(h.pin k (Nat.le_of_ble_eq_true this)).symm
theorem zS2{f:FuncId}{d:Nat}{ty:TypeId}{g:Option (Nat×Bool)}(ks:List Nat)(caps:Array Operand)(hop:opAt ops i=some (.makeFunc (.func f) #[] caps,some d,ty,g))(hk:LAt P cx ops (i+1) (st.put d (.val false [.lit (zPA cx.vals f ks)])) K)
  (hc:caps.toList=ks.map Operand.tmp) (hlo:(ks.all fun k=>Nat.blt k st.lo)=true) (hg:gdT ops st g=true) (hd:Zx st d=true):LAt P cx ops i st K:=
 Yb hop hg hd (fun o ho hdst _=>zGP hdst (qi hd) rfl fun a w Z ω h=>by
  have e:caps=(ks.map Operand.tmp).toArray:=by rw[←hc]
  have e2:caps.map a.eval=(ks.map fun k=>cx.vals.getD k undef).toArray:=by rw[e,zPI h hlo,List.map_toArray]
  simp only[execOp,ho,Instr.makeFunc,e2,zPA,Array.map_empty]
  rfl) hk
theorem zRF(hT:TOk P T){f:FuncId}(t:Nat)(ks:List Nat)(kts:List TypeId){av:Array Operand}{ats:Array TypeId}{d:Option Nat}{ty:TypeId}{g:Option (Nat×Bool)}(ms:List Mode){ps:List JX}{rets:List Ret}{outs:List (Nat×List CV)}
  (hop:opAt ops i=some (.call { callee:=.value (.tmp t),args:=av,argTypes:=ats },d,ty,g)) (hL:zb P f ps rets outs) (hk:LAt P cx ops (i+1) (zG4 T ms (av.toList++ks.map Operand.tmp) (ats.toList++kts) d rets outs st) K)
  (hlit:Ql st (.tmp t)=some (zPA cx.vals f ks)) (hlo:(ks.all fun k=>Nat.blt k st.lo)=true) (hg:gdT ops st g=true) (hd:dB st d=true)
  (hq:(zGL T ms (av.toList++ks.map Operand.tmp) (ats.toList++kts) d rets outs st).map (fun x=>(x.1,x.2.1))=some (ps,[])):LAt P cx ops i st K:=by
 unfold zG4 at hk
 cases hc:zGL T ms (av.toList++ks.map Operand.tmp) (ats.toList++kts) d rets outs st with
 |none=>rw[hc]at hq;cases hq
 | some x =>
  obtain⟨ps',brs',st3⟩:=x
  rw[hc]at hq hk
  cases hq
  unfold zGL at hc
  split at hc
  ·rename_i ps1 brs1 ld st1 hpre
   split at hc
   ·rename_i st3' hpost
    cases hc
    refine zRG hT (f:=f) _ _ hop (fun o ho a w Z ω hR fn hfn hname hbody=>?_) hg (by cases d<;>exact hd) ms hL hpre (.inl rfl) hpost hk
    have hev:a.eval (.tmp t)=zPA cx.vals f ks:=(qY hR hlit).1
    have hname' : fn.name ≠ "runtime.NumGoroutine" := by simpa using hname
    have hbody':fn.body≠none:=by
     intro h0
     rw[h0]at hbody
     cases hbody
    have hargs:av.map a.eval++(ks.map fun k=>cx.vals.getD k undef).toArray=(av.toList++ks.map Operand.tmp).toArray.map a.eval:=by
     rw[zPI hR hlo]
     apply Array.ext'
     simp
    simp only[execOp,ho,resolve,hev,Sem.run_bind,zPA]
    simp[Deferred.ofValue,invoke,callFunc,hfn,hname',hbody']
    simpa using hargs
   ·cases hc
  ·cases hc
theorem yF(f:FuncId)(ks:List Nat)(hk:LAt P cx ops (i+1) (st.put (dN ops i) (.val false [.lit (zPA cx.vals f ks)])) K)(hop:opAt ops i=some (.makeFunc (.func f) #[] (ks.map Operand.tmp).toArray,some (dN ops i),opY ops i,opG ops i):=by kernel_rfl)
  (hlo:(ks.all fun k=>Nat.blt k st.lo)=true:=by kernel_rfl) (hg:gdT ops st (opG ops i)=true:=by kernel_rfl) (hd:Zx st (dN ops i)=true:=by kernel_rfl):LAt P cx ops i st K:=zS2 ks _ hop hk rfl hlo hg hd
theorem yC [h:TC P T] (t:Nat) (ks kts:List Nat) (ms:List Mode) {f:FuncId} {ps:List JX} {rets:List Ret} {outs:List (Nat×List CV)} (hL:zb P f ps rets outs) (hk:LAt P cx ops (i+1) (zG4 T ms ((zDG ops i).toList++ks.map Operand.tmp) ((zD4 ops i).toList++kts) (opD ops i) rets outs st) K)
  (hop:opAt ops i=some (.call { callee:=.value (.tmp t),args:=zDG ops i,argTypes:=zD4 ops i },opD ops i,opY ops i,opG ops i):=by kernel_rfl) (hlit:Ql st (.tmp t)=some (zPA cx.vals f ks):=by kernel_rfl) (hlo:(ks.all fun k=>Nat.blt k st.lo)=true:=by kernel_rfl)
  (hg:gdT ops st (opG ops i)=true:=by kernel_rfl) (hd:dB st (opD ops i)=true:=by kernel_rfl) (hq:(zGL T ms ((zDG ops i).toList++ks.map Operand.tmp) ((zD4 ops i).toList++kts) (opD ops i) rets outs st).map (fun x=>(x.1,x.2.1))=some (ps,[]):=by kernel_rfl):LAt P cx ops i st K:=
 zRF h.ok t ks kts ms hop hL hk hlit hlo hg hd hq
end Go.TL
