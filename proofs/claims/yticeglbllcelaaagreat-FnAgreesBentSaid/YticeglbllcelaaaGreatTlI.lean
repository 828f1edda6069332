import Derived.Test.YticeglbllcelaaaGreatTlH
set_option linter.unusedVariables false
namespace Go.TL
def setAt{α:Type} :Nat→List α→List α→List α
 |_,[],e=>e
 |o,c::cs,e=>setAt (o+1) cs (e.set o c)
theorem QT{α:Type} :∀(o:Nat) (cs e:List α),(setAt o cs e).length=e.length
 |_,[],_=>rfl
 |o,c::cs,e=>by rw[setAt,QT,List.length_set]
theorem zNR{f:List CV→List CV} :∀ {q:List (Nat×Nat)} {cs e:List CV},zAM cs q=some e→zAM (zC1 f cs q) q=some (f e)
 |[],cs,e,h=>by
  simp only[zAM,Option.some.injEq]at h
  subst h;rfl
 |(j,i)::q,cs,e,h=>by
  obtain⟨sz,es,e1,h1,h2,h3⟩:=zBA h
  rw[zAG h1 h2]
  have hj:j<cs.length:=(List.getElem?_eq_some_iff.1 h1).1
  have hi:i<es.length:=(List.getElem?_eq_some_iff.1 h2).1
  simp only[zAM,List.getElem?_set_self hj,List.getElem?_set_self hi]
  exact zNR h3
theorem zNT{f g:List CV→List CV} :∀ {q:List (Nat×Nat)} {cs e:List CV},zAM cs q=some e→zC1 g (zC1 f cs q) q=zC1 (fun x=>g (f x)) cs q
 |[],cs,e,h=>rfl
 |(j,i)::q,cs,e,h=>by
  obtain⟨sz,es,e1,h1,h2,h3⟩:=zBA h
  rw[zAG h1 h2]
  have hj:j<cs.length:=(List.getElem?_eq_some_iff.1 h1).1
  have hi:i<es.length:=(List.getElem?_eq_some_iff.1 h2).1
  rw[zAG (List.getElem?_set_self hj) (List.getElem?_set_self hi),zAG h1 h2]
  rw[List.set_set,List.set_set,zNT h3]
theorem Inv.setCell{cx w Z ω}(h:Inv cx w Z ω){b:Nat}{p:Zu}(hb:ω b=some p)(k:Nat)(u:Value):Inv cx (w.setCell ⟨b,k,none⟩ u) Z ω:=
 { h with
  size:=by
   have:(w.setCell ⟨b,k,none⟩ u).heap.size=w.heap.size:=by simp[World.setCell]
   rw[this];exact h.size
  keep:=fun b' hb' h0=>by
   rw[qE k u (fun e=>by subst e;exact h.wold _ _ hb hb' h0)]
   exact h.keep b' hb' h0
  lt:=fun b' p' hb'=>by
   have:(w.setCell ⟨b,k,none⟩ u).heap.size=w.heap.size:=by simp[World.setCell]
   rw[this];exact h.lt _ _ hb'
  zlt:=fun b' hb'=>by
   have:(w.setCell ⟨b,k,none⟩ u).heap.size=w.heap.size:=by simp[World.setCell]
   rw[this];exact h.zlt _ hb' }
theorem zHZ{cx:Cx}{Z:JI}{r:zn}{q:List (Nat×Nat)}(hq:q≠ []):∀(vs:List Value) (cs:List CV) (i:Nat) (w:World) (ω:Own) (us:List Value) (row e:List CV) (o b:Nat),
  Inv cx w Z ω→Ze w Z ω r.path us row→zAM row q=some e→o+cs.length≤e.length→ω b=some (r.path++spine q)→zEa w Z ω [2,0] i vs cs→
  ∃ω',Inv cx (w.setCells b (ZH q*e.length+o) vs) Z ω'∧Ze (w.setCells b (ZH q*e.length+o) vs) Z ω' r.path us (zC1 (setAt o cs) row q)∧
   (∀b0,Z b0→(w.setCells b (ZH q*e.length+o) vs).heap[b0]? =w.heap[b0]?)∧
   (∀b0 p,ω b0=some p→p≠r.path++spine q→(w.setCells b (ZH q*e.length+o) vs).heap[b0]? =w.heap[b0]?)∧
   (∀b0 p,ω b0=some p→inR [2,0] i cs.length p=none→inR (r.path++qj q) o cs.length p=none→ω' b0=some p)∧
   (zZ cs=true→ω'=ω)
 | [],[],i,w,ω,us,row,e,o,b,inv,hR,hg,ho,hb,hv => by
  refine⟨ω,inv,?_,fun _ _=>rfl,fun _ _ _ _=>rfl,fun _ _ h _ _=>h,fun _=>rfl⟩
  have:∀(q:List (Nat×Nat)) (row:List CV) e,zAM row q=some e→zC1 (setAt o []) row q=row:=by
   intro q
   induction q with
   |nil=>intro row e _;rfl
   | cons y q ih =>
    intro row e h
    obtain⟨j,i⟩:=y
    obtain⟨sz,es,e1,h1,h2,h3⟩:=zBA h
    rw[zAG h1 h2,ih e1 e h3]
    have e1':es.set i e1=es:=by
     apply List.ext_getElem?
     intro n
     by_cases hn:n=i
     ·subst hn;rw[List.getElem?_set_self (List.getElem?_eq_some_iff.1 h2).1,h2]
     ·rw[List.getElem?_set_ne (Ne.symm hn)]
    rw[e1']
    apply List.ext_getElem?
    intro n
    by_cases hn:n=j
    ·subst hn;rw[List.getElem?_set_self (List.getElem?_eq_some_iff.1 h1).1,h1]
    ·rw[List.getElem?_set_ne (Ne.symm hn)]
  rw[this q row e hg]
  exact hR
 | v :: vs,c :: cs,i,w,ω,us,row,e,o,b,inv,hR,hg,ho,hb,hv => by
  have ho':o<e.length:=by simp at ho;omega
  have hZ:∀b p,Z b→ω b≠some p:=fun b p h=>inv.disj b p h
  have hc0:=hv.2 0 c v rfl rfl
  simp only[Nat.add_zero]at hc0
  obtain⟨ω1,inv1,hc1,hpres,hflat⟩:∃ω1,Inv cx w Z ω1∧Qg (w.setCell ⟨b,ZH q*e.length+o,none⟩ v) Z ω1 (r.path++qj q++[o]) v c∧
    (∀b0 p,ω b0=some p→inR [2,0] i 1 p=none→inR (r.path++qj q) o 1 p=none→ω1 b0=some p)∧(c.flat=true→ω1=ω):=by
   cases hf:c.flat with
   |true=>
    refine⟨ω,inv,hc0.flat_conv hf _ fun b0 hz=>⟨hz,qE _ _ (fun h=>by subst h;exact hZ _ _ hz hb)⟩,fun _ _ h _ _=>h,fun _=>rfl⟩
   | false =>
    refine⟨Jt [2,0] i 1 (r.path++qj q) o ω,inv.reloc _ _ _ _ _,?_,fun b0 p h h1 h2=>qk h h1 h2,fun h=>by cases h⟩
    refine hc0.conv _ (fun b0 hz=>⟨hz,qE _ _ (fun h=>by subst h;exact hZ _ _ hz hb)⟩) fun b0 r0 hb0=>⟨?_,qE _ _ (fun h=>?_)⟩
    ·have:=zBq (S:=[2,0]) (D:=r.path++qj q) (o:=i) (n:=1) (o2:=o) (ω:=ω) (b:=b0) (j:=0) (r:=r0) (by rw[hb0];simp) (by omega)
     rw[this];simp
    ·subst h
     rw[hb]at hb0
     have hb1:=Option.some.inj hb0
     rw[List.append_assoc]at hb1
     exact Yo r 0 _ _ hb1
  have hsp:inR [2,0] i 1 (r.path++spine q)=none:=zA9
  have hspq:inR (r.path++qj q) o 1 (r.path++spine q)=none:=qS fun j r' h=>by
   have h1:=congrArg List.length h
   have h2:=congrArg List.length (zGy q hq)
   simp at h1 h2
   omega
  have hb1:ω1 b=some (r.path++spine q):=hpres b _ hb hsp hspq
  have hst:=Ze.store (ω':=ω1) (b:=b) (k:=ZH q*e.length+o) (u':=v) (c':=c) (o:=o) hZ q _ us row e hq hR hg ho' hb (fun b2 h2=>inv.inj _ _ _ h2 hb) rfl hc1 (fun b0 r0 hb0 hn=>by
   refine hpres b0 _ hb0 zA9 (qS fun j r' h hj=>?_)
   rw[List.append_assoc]at h
   have h1:=List.append_cancel_left h
   apply hn
   have hj0:j=0:=by omega
   subst hj0
   exact⟨r',by rw[h1];simp⟩)
  have hlen:(e.set o c).length=e.length:=List.length_set
  have ih:=zHZ (cx:=cx) (r:=r) hq vs cs (i+1) (w.setCell ⟨b,ZH q*e.length+o,none⟩ v) ω1 us (zC1 (·.set o c) row q) (e.set o c) (o+1) b (inv1.setCell hb1 _ _) hst (zNR hg)
   (by rw[hlen];simp at ho;omega) hb1 ?_
  ·rw[hlen]at ih
   obtain⟨ω2,i1,i2,i3,i4,i5,i6⟩:=ih
   refine⟨ω2,?_,?_,?_,?_,?_,?_⟩
   ·rw[World.setCells];exact i1
   ·rw[World.setCells]
    rw[zNT hg]at i2
    exact i2
   ·intro b0 hz
    rw[World.setCells]
    exact(i3 b0 hz).trans (qE _ _ (fun h=>by subst h;exact hZ _ _ hz hb))
   ·intro b0 p hb0 hp
    rw[World.setCells]
    have hne:b0≠b:=fun h=>by subst h;rw[hb]at hb0;exact hp (Option.some.inj hb0).symm
    by_cases hin:inR [2,0] i 1 p=none∧inR (r.path++qj q) o 1 p=none
    ·exact(i4 b0 p (hpres b0 p hb0 hin.1 hin.2) hp).trans (qE _ _ hne)
    ·
     cases h1:ω1 b0 with
     |some p1=>
      have:p1≠r.path++spine q:=fun e=>hne (inv1.inj _ _ _ (by rw[h1,e]) hb1)
      exact(i4 b0 p1 h1 this).trans (qE _ _ hne)
     | none =>
      have:∀(vs:List Value) (k:Nat) (w:World),(w.setCells b k vs).heap[b0]? =w.heap[b0]? :=by
       intro vs
       induction vs with
       |nil=>intro k w;rfl
       |cons v vs ih=>intro k w;rw[World.setCells,ih];exact qE _ _ hne
      exact(this _ _ _).trans (qE _ _ hne)
   ·intro b0 p hb0 h1 h2
    have g1:inR [2,0] i 1 p=none:=qS fun j r' h hj=>by
     have:=zBZ.2 ⟨h,(by simp;omega:j<(c::cs).length)⟩
     rw[h1]at this;cases this
    have g2:inR (r.path++qj q) o 1 p=none:=qS fun j r' h hj=>by
     have:=zBZ.2 ⟨h,(by simp;omega:j<(c::cs).length)⟩
     rw[h2]at this;cases this
    refine i5 b0 p (hpres b0 p hb0 g1 g2) (qS fun j r' h hj=>?_) (qS fun j r' h hj=>?_)
    ·have:=zBZ.2 ⟨(by rw[h,show i+1+j=i+(j+1) by omega]:p=[2,0]++(i+(j+1))::r'),(by simp;omega:j+1<(c::cs).length)⟩
     rw[h1]at this;cases this
    ·have:=zBZ.2 ⟨(by rw[h,show o+1+j=o+(j+1) by omega]:p=(r.path++qj q)++(o+(j+1))::r'),(by simp;omega:j+1<(c::cs).length)⟩
     rw[h2]at this;cases this
   ·intro hf
    simp only[zZ,Bool.and_eq_true]at hf
    rw[i6 hf.2,hflat hf.1]
  ·
   have hl:=hv.1
   refine⟨by simpa using hl,fun j c2 u hc hu=>?_⟩
   have:=hv.2 (j+1) c2 u (by simpa using hc) (by simpa using hu)
   rw[show i+1+j=i+(j+1) by omega]
   refine this.conv _ (fun b0 hz=>⟨hz,qE _ _ (fun h=>by subst h;exact hZ _ _ hz hb)⟩) fun b0 r0 hb0=>⟨hpres b0 _ hb0 (qS fun j2 r2 h h2=>?_) (qS fun j2 r2 h h2=>?_),qE _ _ (fun h=>?_)⟩
   ·simp at h;omega
   ·rw[List.append_assoc,List.append_assoc]at h
    exact Yo r 0 _ _ h.symm
   ·subst h
    rw[hb]at hb0
    have hb1:=Option.some.inj hb0
    rw[List.append_assoc]at hb1
    exact Yo r 0 _ _ hb1
 |[],c::cs,i,w,ω,us,row,e,o,b,inv,hR,hg,ho,hb,hv=>by have:=hv.1;simp at this
 |v::vs,[],i,w,ω,us,row,e,o,b,inv,hR,hg,ho,hb,hv=>by have:=hv.1;simp at this
end Go.TL
