import Derived.Test.YticeglbllcelaaaGreatTlP
set_option linter.unusedVariables false
namespace Go.TL
def zP7(st:St)(l:YK)(t:Nat)(p:JX):Prop:=
 (l.ptr=true∧∃k cs,l.r=.box k∧l.q=[(0,0)]∧lk st.s t=some (.adr (.box k) [(0,0)] cs.length 0)∧lk st.b k=some cs∧p=.ptr cs∧l.n=cs.length)∨
 (l.ptr=false∧∃m ag c,lk st.s t=some (.ref l.r l.q m l.o l.n ag)∧zMB st l.r l.q m l.o l.n=some c∧p=.io ag c)
theorem zQj{T:Nat→Option TI}{st:St}{m:Mode}{ty:TypeId}{x:Operand}{i:Nat}{ow:Option (Bool×List CV)}{p:JX}{br:Option zn}{l:YK}(hx:zKE T st m ty x i ow=some (p,br,some l)):
  l.i=i∧m=.lend∧∃t,x=.tmp t∧zP7 st l t p:=by
 cases m with
 |own=>simp only[zKE]at hx;split at hx<;>cases hx
 | rd =>
  simp only[zKE]at hx
  split at hx
  ·split at hx<;>cases hx
  ·split at hx
   ·rename_i ag cs hlk
    cases hf:zZ cs<;>simp[hf]at hx
   ·split at hx
    ·rename_i c hc
     cases hf:zZ c<;>simp[hf]at hx
    ·cases hx
   ·cases hx
   ·cases hx
  ·cases hx
 | lend =>
  simp only[zKE]at hx
  split at hx
  ·rename_i t
   split at hx
   ·rename_i k m hlk
    split at hx
    ·rename_i cs hbk
     cases hlen:cs.length==m with
     |false=>simp[hlen]at hx
     |true=>
      simp only[hlen,cond_true,Option.some.injEq,Prod.mk.injEq]at hx
      obtain⟨rfl,rfl,rfl⟩:=hx
      have:cs.length=m:=by simpa using hlen
      subst this
      exact⟨rfl,rfl,t,rfl,.inl ⟨rfl,k,cs,rfl,rfl,hlk,hbk,rfl,rfl⟩⟩
    ·cases hx
   ·rename_i r q m o n ag hlk
    split at hx
    ·rename_i c hc
     simp only[Option.some.injEq,Prod.mk.injEq]at hx
     obtain⟨rfl,rfl,rfl⟩:=hx
     exact⟨rfl,rfl,t,rfl,.inr ⟨rfl,m,ag,c,hlk,hc,rfl⟩⟩
    ·cases hx
   ·cases hx
  ·cases hx
theorem zKF{T:Nat→Option TI}{cx st a w Z ω}(h:Rel cx st a w Z ω){g:Option YK}(hg:∀l,g.map YK.lent=some l→l.Ok ω){brs:List zn}(hbr:∀l,g=some l→l.r∉brs)
  (hroot:∀r x,r∈brs→goP (g.map YK.lent) (zn.path r++x)=none):
  ∀(xs:List (Mode×TypeId×Operand)) (ows:List (Option (Bool×List CV))) (i:Nat) (ps:List JX) (brs0:List zn) (ld:Option YK),zFU T st xs ows i=some (ps,brs0,ld)→(∀r∈brs0,r∈brs)→(∀l,ld=some l→g=some l)→
   (∀(k:Nat) m ty x ag cs,xs[k]? =some (m,ty,x)→ows[k]? =some (some (ag,cs))→shp ag (a.eval x)∧Ze w Z ω [2,i+k] (a.eval x).cells.toList cs)→
   ps.length=xs.length∧(∀(k:Nat) arg,ps[k]? =some arg→∃m ty x,xs[k]? =some (m,ty,x)∧ArgRel w (zMQ Z ω brs) (zEO (g.map YK.lent) ω) (i+k) (a.eval x) arg)
 |[],ows,i,ps,brs0,ld,hs,h1,h2,h3=>by
  simp only[zFU,Option.some.injEq,Prod.mk.injEq]at hs
  obtain⟨rfl,rfl,rfl⟩:=hs
  exact⟨rfl,fun k arg h=>by simp at h⟩
 |(m,ty,x)::r,[],i,ps,brs0,ld,hs,h1,h2,h3=>by simp[zFU]at hs
 | (m,ty,x) :: r,ow :: ows,i,ps,brs0,ld,hs,h1,h2,h3 => by
  simp only[zFU]at hs
  split at hs
  ·rename_i p br ld1 hp
   split at hs
   ·rename_i ps' brs' ld' hr
    have fin:ps=p::ps'→(∀r,br=some r→r∈brs)→(∀r∈brs',r∈brs)→(∀l,ld1=some l→g=some l)→(∀l,ld'=some l→g=some l)→
      ps.length=((m,ty,x)::r).length∧(∀(k:Nat) arg,ps[k]? =some arg→∃m' ty' x',((m,ty,x)::r)[k]? =some (m',ty',x')∧ArgRel w (zMQ Z ω brs) (zEO (g.map YK.lent) ω) (i+k) (a.eval x') arg):=by
     intro e b1 b2 l1 l2
     have hrec:=zKF h hg hbr hroot r ows (i+1) ps' brs' ld' hr b2 l2 (fun k m' ty' x' ag cs e1 e2=>by
      have:=h3 (k+1) m' ty' x' ag cs (by simpa using e1) (by simpa using e2)
      rw[show i+1+k=i+(k+1) by omega];exact this)
     subst e
     refine⟨by simp[hrec.1],fun k arg hk=>?_⟩
     cases k with
     |zero=>
      simp only[List.getElem?_cons_zero,Option.some.injEq]at hk
      subst hk
      exact⟨m,ty,x,rfl,zPX h hg hbr hp b1 l1 (fun ag cs e=>h3 0 m ty x ag cs rfl (by simp[e])) hroot⟩
     |succ k=>
      simp only[List.getElem?_cons_succ]at hk
      obtain⟨m',ty',x',g1,g2⟩:=hrec.2 k arg hk
      exact⟨m',ty',x',by simpa using g1,by rw[show i+(k+1)=i+1+k by omega];exact g2⟩
    split at hs
    ·simp only[Option.some.injEq,Prod.mk.injEq]at hs
     obtain⟨e1,e2,e3⟩:=hs
     exact fin e1.symm (fun r hr=>h1 r (by rw[←e2,hr];simp)) (fun r hr=>h1 r (by rw[←e2];simp[hr])) (fun l e=>by cases e) (fun l e=>h2 l (by rw[←e3];exact e))
    ·rename_i l0
     split at hs
     ·simp only[Option.some.injEq,Prod.mk.injEq]at hs
      obtain⟨e1,e2,e3⟩:=hs
      exact fin e1.symm (fun r hr=>h1 r (by rw[←e2,hr];simp)) (fun r hr=>h1 r (by rw[←e2];simp[hr])) (fun l e=>h2 l (by rw[←e3];exact e)) (fun l e=>by cases e)
     ·cases hs
   ·cases hs
  ·cases hs
theorem zLr{T:Nat→Option TI}{st:St} :∀(xs:List (Mode×TypeId×Operand)) (ows:List (Option (Bool×List CV))) (i:Nat) (ps:List JX) (brs0:List zn) (l:YK),zFU T st xs ows i=some (ps,brs0,some l)→
  ∃k ty t p,l.i=i+k∧xs[k]? =some (.lend,ty,.tmp t)∧ps[k]? =some p∧zP7 st l t p
 |[],ows,i,ps,brs0,l,hs=>by simp[zFU]at hs
 |(m,ty,x)::r,[],i,ps,brs0,l,hs=>by simp[zFU]at hs
 | (m,ty,x) :: r,ow :: ows,i,ps,brs0,l,hs => by
  simp only[zFU]at hs
  split at hs
  ·rename_i p br ld1 hp
   split at hs
   ·rename_i ps' brs' ld' hr
    split at hs
    ·simp only[Option.some.injEq,Prod.mk.injEq]at hs
     obtain⟨e1,e2,e3⟩:=hs
     subst e3
     obtain⟨k,ty',t,p',g1,g2,g3,g4⟩:=zLr r ows (i+1) ps' brs' l hr
     exact⟨k+1,ty',t,p',by omega,by simpa using g2,by rw[←e1];simpa using g3,g4⟩
    ·rename_i l0
     split at hs
     ·simp only[Option.some.injEq,Prod.mk.injEq]at hs
      obtain⟨e1,e2,e3⟩:=hs
      subst e3
      obtain⟨g1,g2,t,g3,g4⟩:=zQj hp
      subst g2;subst g3
      exact⟨0,ty,t,p,g1,rfl,by rw[←e1];rfl,g4⟩
     ·cases hs
   ·cases hs
  ·cases hs
def Ret.mine:Ret→Prop
 |.val _ cs=>z5 cs
 |.ptr cs=>z5 cs
theorem zGK.conv{w':World}{Z' Zn:JI}{ω' ωn:Own}{v:Value}{rets:List Ret}(h:zGK w' Z' ω' v rets)(hz:(∀b,Z' b→Zn b)∨∀r∈rets,r.mine)(ho:∀b r,ω' b=some (2::r)→ωn b=some (2::r)):zGK w' Zn ωn v rets:=by
 have one:∀k us cs,(∀b,Z' b→Zn b)∨z5 cs→Ze w' Z' ω' [2,k] us cs→Ze w' Zn ωn [2,k] us cs:=by
  intro k us cs hz hR
  rcases hz with hz|hm
  ·exact hR.conv _ (fun b hb=>⟨hz b hb,rfl⟩) fun b r hb=>⟨ho b _ hb,rfl⟩
  ·exact(hR.mine_conv (Z':=fun b=>False) hm).conv _ (fun b hb=>hb.elim) fun b r hb=>⟨ho b _ hb,rfl⟩
 unfold zGK at*
 split
 ·rename_i ag cs
  exact⟨h.1,one 0 _ _ (hz.imp id fun hm=>hm (.val ag cs) (by simp)) h.2⟩
 ·rename_i cs
  obtain⟨b,h1,h2,u,h3⟩:=h
  refine⟨b,h1,ho b _ h2,u,one 0 _ _ (hz.imp id fun hm=>?_) h3⟩
  have:=hm (.ptr cs) (by simp)
  exact⟨⟨rfl,⟨this,trivial⟩⟩,trivial⟩
 ·rename_i h1 h2
  simp only at h
  obtain⟨us,k1,k2,k3⟩:=h
  refine⟨us,k1,k2,fun k ag cs hk=>?_⟩
  obtain⟨u,g1,g2,g3⟩:=k3 k ag cs hk
  exact⟨u,g1,g2,one k _ _ (hz.imp id fun hm=>hm (.val ag cs) (List.mem_of_getElem? hk)) g3⟩
def zLE:List Ret→Option (List (Bool×List CV))
 |[]=>some []
 |.val ag cs::r=>match zLE r with
  |some l=>some ((ag,cs)::l)
  |none=>none
 |.ptr _::_=>none
def zFv(st:St)(d:Option Nat)(rets:List Ret):Option St:=match d with
 |none=>some st
 | some d => bif Nat.ble st.lo d && Nat.blt d st.n then (match rets with
  |[.val ag cs]=>some (st.put d (.val ag cs))
  |[.ptr cs]=>some (st.newBox d cs)
  |rs=>match zLE rs with
   |some l=>some (st.put d (.tup l))
   |none=>none)else none
theorem zMC:∀ {rs:List Ret} {l:List (Bool×List CV)},zLE rs=some l→l.length=rs.length∧∀(k:Nat) ag cs,l[k]? =some (ag,cs)→rs[k]? =some (.val ag cs)
 |[],l,h=>by
  simp only[zLE,Option.some.injEq]at h
  subst h
  exact⟨rfl,fun k ag cs h=>by simp at h⟩
 | .val ag cs :: r,l,h => by
  simp only[zLE]at h
  split at h
  ·rename_i l' hl
   cases h
   obtain⟨h1,h2⟩:=zMC hl
   refine⟨by simp[h1],fun k ag' cs' hk=>?_⟩
   cases k with
   |zero=>simp only[List.getElem?_cons_zero,Option.some.injEq,Prod.mk.injEq]at hk ⊢; obtain⟨rfl,rfl⟩:=hk;rfl
   |succ k=>simp only[List.getElem?_cons_succ]at hk ⊢; exact h2 k ag' cs' hk
  ·cases h
 |.ptr _::_,l,h=>by simp[zLE]at h
theorem zMw{cx st st' a w Z ω}(h:Rel cx st a w Z ω){d:Option Nat}{rets:List Ret}{v:Value}(hp:zFv st d rets=some st')(hr:zGK w Z ω v rets):∃ω',Rel cx st' (a.put d v) w Z ω':=by
 unfold zFv at hp
 split at hp
 ·cases hp;exact⟨ω,h⟩
 ·rename_i d
  cases hdb:(Nat.ble st.lo d&&Nat.blt d st.n)with
  |false=>simp only[hdb,cond_false]at hp;cases hp
  | true =>
   have hd:st.okD d:=by simpa [St.okD]using hdb
   simp only[hdb,cond_true]at hp
   split at hp
   ·rename_i ag cs
    cases hp
    exact h.putT hd hr.1 hr.2
   ·rename_i cs
    cases hp
    obtain⟨b,e1,e2,u,e3⟩:=hr
    subst e1
    have hdd:d<a.tmps.size:=by rw[h.nt];exact hd.2
    refine⟨Jt [2,0] 0 1 [1,d] 0 ω,?_⟩
    have hmv:∀b r,ω b=some ([2,0]++0::r)→Jt [2,0] 0 1 [1,d] 0 ω b=some ([1,d]++0::r):=fun b r hb=>by
     have:=zBq (S:=[2,0]) (D:=[1,d]) (o:=0) (n:=1) (o2:=0) (ω:=ω) (b:=b) (j:=0) (r:=r) hb (by omega)
     exact this
    refine h.step (fun r=>r=.slot d∨r=.box d) ⟨fun b hb=>⟨hb,rfl⟩,fun r hr b x hb=>⟨qk hb zA9 ?_,rfl⟩,fun t ht=>Zq (fun e=>ht (.inl (by rw[e])))⟩ (h.inv.reloc _ _ _ _ _) (by rw[size_put];exact h.nt) (by rw[zE3];exact h.df) (fun t ht=>by rw[Zq (by have h1:=hd.1;have h0:t<st.lo:=ht;omega)];exact h.pin t ht)
     (fun t sv hm=>?_) (fun k cs' hm=>?_)
    ·have:=Y2 (r:=.box d) (fun e=>hr (.inr e)) (S:=[]) (o:=0) (n:=1) (x:=x)
     simpa [zn.path]using this
    ·rcases List.mem_cons.1 hm with e|hm
     ·cases e
      right
      rw[Yq hdd]
      exact⟨b,hmv b [] e2,by simp[ZH]⟩
     ·left
      have h1:=QS hm
      have h2:=QS h1.1
      refine⟨h2.1,?_⟩
      have a1:=QQ h1.2
      have a2:=QQ h2.2
      cases sv<;>simp only[SV.apart]at a1 a2⊢
      case ref=>exact⟨fun e=>e.elim a1.1 a2.1,fun e=>e.elim a1.2 a2.2⟩
      case adr=>exact⟨fun e=>e.elim a1.1 a2.1,fun e=>e.elim a1.2 a2.2⟩
      all_goals exact fun e=>e.elim a1 a2
    ·rcases List.mem_cons.1 hm with e|hm
     ·cases e
      right
      exact⟨u,zEa.zero.1 ((zEa.zero.2 e3).conv (p':=[1,d]) (o':=0) (fun b hb=>⟨hb,rfl⟩) fun b j r hj hb=>⟨by
       have hj0:j=0:=by simp at hj;exact hj
       subst hj0
       exact hmv b r hb,rfl⟩)⟩
     ·left
      have:=zBB hm
      exact⟨this.1,fun e=>e.elim (fun e=>by cases e) (fun e=>ZI this.2 e)⟩
   ·rename_i hn1 hn2
    split at hp
    ·rename_i l hl
     cases hp
     obtain⟨g1,g2⟩:=zMC hl
     have hr':∃us:Array Value,v=.tuple us∧us.size=rets.length∧∀(k:Nat) ag cs,rets[k]? =some (.val ag cs)→∃u,us[k]? =some u∧shp ag u∧Ze w Z ω [2,k] u.cells.toList cs:=by
      unfold zGK at hr
      split at hr
      ·exact absurd rfl (hn1 _ _)
      ·exact absurd rfl (hn2 _)
      ·exact hr
     obtain⟨us,e1,e2,e3⟩:=hr'
     refine⟨Jt [2] 0 l.length [0,d] 0 ω,h.put hd (h.inv.reloc _ _ _ _ _) (fun b hb=>⟨hb,rfl⟩) (fun r hr b x hb=>⟨qk hb (qS fun j r' h=>?_) ?_,rfl⟩) ⟨us,e1,by rw[e2,g1],fun k ag cs hk=>?_⟩⟩
     ·cases r<;>simp[zn.path]at h
     ·have:=Y2 (r:=.slot d) hr (S:=[]) (o:=0) (n:=l.length) (x:=x)
      simpa [zn.path]using this
     ·obtain⟨u,f1,f2,f3⟩:=e3 k ag cs (g2 k ag cs hk)
      refine⟨u,f1,f2,f3.conv _ (fun b hb=>⟨hb,rfl⟩) fun b r hb=>⟨?_,rfl⟩⟩
      have hk':k<l.length:=(List.getElem?_eq_some_iff.1 hk).1
      have:=zBq (S:=[2]) (D:=[0,d]) (o:=0) (n:=l.length) (o2:=0) (ω:=ω) (b:=b) (j:=k) (r:=r) (by rw[hb];simp) hk'
      rw[this];simp
    ·cases hp
end Go.TL
