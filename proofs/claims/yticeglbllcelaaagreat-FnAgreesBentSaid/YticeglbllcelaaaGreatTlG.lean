import Derived.Test.YticeglbllcelaaaGreatTlF
set_option linter.unusedVariables false
namespace Go.TL
def strip:Zu→Zu→Option Zu
 |[],p=>some p
 |x::S,y::p=>if x=y then strip S p else none
 |_::_,[]=>none
theorem zBr:∀ {S p r:Zu},strip S p=some r↔p=S++r
 |[],p,r=>by simp[strip]
 |x::S,[],r=>by simp[strip]
 |x::S,y::p,r=>by
  simp only[strip]
  split
  ·rename_i h;subst h;rw[zBr];simp
  ·rename_i h;simp;intro h2;exact absurd h2.symm h
def inR(S:Zu)(o n:Nat)(p:Zu):Option (Nat×Zu):=match strip S p with
 |some (k::r)=>if o≤k∧k<o+n then some (k-o,r)else none
 |_=>none
theorem zBZ{S:Zu}{o n:Nat}{p:Zu}{j:Nat}{r:Zu} :inR S o n p=some (j,r)↔p=S++(o+j)::r∧j<n:=by
 unfold inR
 split
 ·rename_i k r' h
  rw[zBr]at h
  subst h
  split
  ·rename_i hk
   constructor
   ·intro h;cases h;exact⟨by rw[show o+(k-o)=k by omega],by omega⟩
   ·rintro⟨h1,h2⟩
    have h3:=List.append_cancel_left h1
    have h4:=(List.cons.inj h3).1
    have h5:=(List.cons.inj h3).2
    subst h5
    simp only[Option.some.injEq,Prod.mk.injEq,and_true]
    omega
  ·rename_i hk
   constructor
   ·intro h;cases h
   ·rintro⟨h1,h2⟩
    have h3:=List.append_cancel_left h1
    have h4:=(List.cons.inj h3).1
    omega
 ·rename_i h
  constructor
  ·intro h;cases h
  ·rintro⟨h1,h2⟩
   exact absurd (zBr.2 h1) (h _ _)
theorem qS{S:Zu}{o n:Nat}{p:Zu}(h:∀j r,p=S++(o+j)::r→¬j<n):inR S o n p=none:=by
 cases hh:inR S o n p with
 |none=>rfl
 |some x=>
  obtain⟨j,r⟩:=x
  have:=zBZ.1 hh
  exact absurd this.2 (h j r this.1)
def Jt(S:Zu)(o n:Nat)(D:Zu)(o2:Nat)(ω:Own):Own:=fun b=>match ω b with
 |none=>none
 | some p => match inR S o n p with
  |some (j,r)=>some (D++(o2+j)::r)
  |none=>match inR D o2 n p with
   |some _=>none
   |none=>some p
theorem zBq{S D:Zu}{o n o2:Nat}{ω:Own}{b j:Nat}{r:Zu}(h:ω b=some (S++(o+j)::r))(hj:j<n):Jt S o n D o2 ω b=some (D++(o2+j)::r):=by
 unfold Jt
 simp only[h,zBZ.2 ⟨rfl,hj⟩]
theorem qk{S D:Zu}{o n o2:Nat}{ω:Own}{b:Nat}{p:Zu}(h:ω b=some p)(h1:inR S o n p=none)(h2:inR D o2 n p=none):Jt S o n D o2 ω b=some p:=by
 unfold Jt
 simp only[h,h1,h2]
theorem zGk{S D:Zu}{o n o2:Nat}{ω:Own}{b:Nat}{p:Zu}(h:Jt S o n D o2 ω b=some p):
  (∃j r,ω b=some (S++(o+j)::r)∧j<n∧p=D++(o2+j)::r)∨(ω b=some p∧inR D o2 n p=none):=by
 unfold Jt at h
 split at h
 ·cases h
 ·rename_i p0 h0
  split at h
  ·rename_i j r hj
   cases h
   have:=zBZ.1 hj
   exact .inl ⟨j,r,by rw[h0,this.1],this.2,rfl⟩
  ·split at h
   ·cases h
   ·rename_i h2
    cases h
    exact .inr ⟨h0,h2⟩
theorem zQ1{S D:Zu}{o n o2:Nat}{ω:Own}(hi:∀b b' p,ω b=some p→ω b'=some p→b=b'):∀b b' p,Jt S o n D o2 ω b=some p→Jt S o n D o2 ω b'=some p→b=b':=by
 intro b b' p h1 h2
 rcases zGk h1 with⟨j,r,k1,k2,rfl⟩|⟨k1,k2⟩
 ·rcases zGk h2 with⟨j',r',g1,g2,g3⟩|⟨g1,g2⟩
  ·have h3:=List.append_cancel_left g3
   have h4:=(List.cons.inj h3).1
   have h5:=(List.cons.inj h3).2
   have:j=j':=by omega
   subst this;subst h5
   exact hi _ _ _ k1 g1
  ·rw[zBZ.2 ⟨rfl,k2⟩]at g2;cases g2
 ·rcases zGk h2 with⟨j',r',g1,g2,rfl⟩|⟨g1,g2⟩
  ·rw[zBZ.2 ⟨rfl,g2⟩]at k2;cases k2
  ·exact hi _ _ _ k1 g1
theorem Inv.own{cx w Z ω}(h:Inv cx w Z ω){ω':Own}(h1:∀b p,ω' b=some p→∃p',ω b=some p')(hi:∀b b' p,ω' b=some p→ω' b'=some p→b=b'):Inv cx w Z ω':=
 { h with
  wold:=fun b p hb=>by obtain⟨p',h2⟩:=h1 b p hb;exact h.wold b p' h2
  disj:=fun b p hz hb=>by obtain⟨p',h2⟩:=h1 b p hb;exact h.disj b p' hz h2
  inj:=hi
  lt:=fun b p hb=>by obtain⟨p',h2⟩:=h1 b p hb;exact h.lt b p' h2 }
theorem Inv.reloc{cx w Z ω}(h:Inv cx w Z ω)(S:Zu)(o n:Nat)(D:Zu)(o2:Nat):Inv cx w Z (TL.Jt S o n D o2 ω):=
 h.own (fun b p hb=>by rcases zGk hb with⟨j,r,k1,_⟩|⟨k1,_⟩<;>exact⟨_,k1⟩) (zQ1 h.inj)
theorem zN6{w:World}{Z:JI}{ω ω':Own}{f:List CV→List CV}{bad:Nat→Prop} :∀(q:List (Nat×Nat)) (p:Zu) (us:List Value) (cs e:List CV),Ze w Z ω p us cs→zAM cs q=some e→(f e).length=e.length→
  (∀us',Ze w Z ω (p++qj q) us' e→Ze w Z ω' (p++qj q) us' (f e))→
  (∀b r,ω b=some (p++r)→¬(∃k x,r=qj q++k::x∧bad k)→ω' b=some (p++r))→Ze w Z ω' p us (zC1 f cs q)
 |[],p,us,cs,e,h,hg,hl,hf,hω=>by
  simp only[zAM,Option.some.injEq]at hg
  subst hg
  simp only[qj,List.append_nil]at hf
  exact hf us h
 | (j,i) :: q,p,us,cs,e,h,hg,hl,hf,hω => by
  obtain⟨sz,es,e1,h1,h2,h3⟩:=zBA hg
  rw[zAG h1 h2]
  refine⟨by rw[List.length_set];exact h.1,fun j' c u hc hu=>?_⟩
  by_cases hj:j'=j
  ·subst hj
   have hjl:j'<cs.length:=(List.getElem?_eq_some_iff.1 h1).1
   rw[List.getElem?_set_self hjl]at hc
   cases hc
   have hR:=h.2 j' _ u h1 hu
   have hne:es≠ []:=by intro h0;rw[h0]at h2;cases h2
   obtain⟨b1,cap,us',cur,T,rfl,hω1,hb1,hcap,hm,hcs,hsz,hcc,hr⟩:=hR.own_inv hne
   have hil:i<es.length:=(List.getElem?_eq_some_iff.1 h2).1
   have hes:e1.length=sz:=hsz e1 (List.mem_of_getElem? h2)
   have hrow:=Qg.row h2 hr hsz
   have ih:=zN6 (f:=f) (ω':=ω') (bad:=bad) q _ _ e1 e hrow h3 hl
    (by have:=hf;simpa [qj]using this)
    (fun b0 r hb0 hn=>by
     have:=hω b0 ([j',i]++r) (by rw[hb0];simp) (by
      rintro⟨k,x,hk,hb⟩
      refine hn ⟨k,x,?_,hb⟩
      simpa [qj]using hk)
     rw[this];simp)
   have hlen:(es.set i (zC1 f e1 q)).length=es.length:=List.length_set
   rw[←hlen]
   have hl1:(zC1 f e1 q).length=e1.length:=by have:=ih.1;simp at this;exact this.symm
   have hsz':∀e∈es.set i (zC1 f e1 q),e.length=sz:=fun e he=>by
    rcases List.mem_or_eq_of_mem_set he with he|rfl
    ·exact hsz e he
    ·rw[hl1];exact hes
   refine .own _ b1 cap sz _ us' cur T ?_ hb1 (by rw[hlen];exact hcap) hm hcs hsz' ?_ ?_
   ·refine hω b1 [j'] hω1 ?_
    rintro⟨k,x,hk,_⟩
    simp[qj]at hk
   ·intro i' j2 c hc
    obtain⟨e',g1,g2⟩:=JZ hc
    by_cases hi:i'=i
    ·subst hi
     rw[List.getElem?_set_self hil]at g1
     cases g1
     have hj2:j2<e1.length:=by
      have:=(List.getElem?_eq_some_iff.1 g2).1
      omega
     exact hcc i' j2 e1[j2] (JM h2 (List.getElem?_eq_getElem hj2))
    ·rw[List.getElem?_set_ne (Ne.symm hi)]at g1
     exact hcc i' j2 c (JM g1 g2)
   ·intro i' j2 c hc
    obtain⟨e',g1,g2⟩:=JZ hc
    by_cases hi:i'=i
    ·subst hi
     rw[List.getElem?_set_self hil]at g1
     cases g1
     have hj2:j2<e1.length:=by
      have:=(List.getElem?_eq_some_iff.1 g2).1
      omega
     have:=ih.2 j2 c (us' i' j2) g2 (by rw[List.getElem?_map,List.getElem?_range hj2];rfl)
     simpa using this
    ·rw[List.getElem?_set_ne (Ne.symm hi)]at g1
     refine(hr i' j2 c (JM g1 g2)).conv _ (fun b0 hz=>⟨hz,rfl⟩) fun b0 r hb0=>⟨?_,rfl⟩
     have:=hω b0 ([j']++[i',j2]++r) (by rw[hb0];simp) (by
      rintro⟨k,x,hk,_⟩
      simp only[qj]at hk
      simp at hk
      exact hi hk.1)
     rw[this];simp
  ·rw[List.getElem?_set_ne (Ne.symm hj)]at hc
   refine(h.2 j' c u hc hu).conv _ (fun b0 hz=>⟨hz,rfl⟩) fun b0 r hb0=>⟨?_,rfl⟩
   have:=hω b0 ([j']++r) (by rw[hb0];simp) (by
    rintro⟨k,x,hk,_⟩
    simp only[qj]at hk
    simp at hk
    exact hj hk.1)
   rw[this];simp
def zLA(o n:Nat)(e:List CV):List CV:=e.take o++(List.replicate n CV.dead++e.drop (o+n))
theorem zMo{o n:Nat}{e:List CV}(h:o+n≤e.length):(zLA o n e).length=e.length:=by
 simp[zLA];omega
theorem zPZ{o n:Nat}{e:List CV}(h:o+n≤e.length)(j:Nat):(zLA o n e)[j]? =if o≤j∧j<o+n then some .dead else e[j]? :=by
 unfold zLA
 by_cases h1:j<o
 ·rw[List.getElem?_append_left (by simp;omega),List.getElem?_take_of_lt h1,if_neg (by omega)]
 ·rw[List.getElem?_append_right (by simp;omega)]
  have:(e.take o).length=o:=by simp;omega
  rw[this]
  by_cases h2:j<o+n
  ·rw[List.getElem?_append_left (by simp;omega),if_pos (by omega),List.getElem?_replicate,if_pos (by omega)]
  ·rw[List.getElem?_append_right (by simp;omega),if_neg (by omega),List.getElem?_drop]
   congr 1
   simp
   omega
def zOU(t:Nat):List (Nat×SV)→List (Nat×SV)
 |[]=>[]
 |(k,sv)::l=>bif k==t then zOU t l else(k,sv)::zOU t l
theorem zGC{t0 t:Nat}{sv:SV} :∀ {l:List (Nat×SV)},(t,sv)∈zOU t0 l→(t,sv)∈l∧t≠t0
 |[],h=>by cases h
 | (k,sv') :: l,h => by
  simp only[zOU]at h
  cases hh:k==t0 with
  |true=>
   simp only[hh,cond_true]at h
   exact⟨List.mem_cons_of_mem _ (zGC h).1,(zGC h).2⟩
  | false =>
   simp only[hh,cond_false]at h
   rcases List.mem_cons.1 h with e|h
   ·cases e
    exact⟨List.mem_cons_self,by simpa using hh⟩
   ·exact⟨List.mem_cons_of_mem _ (zGC h).1,(zGC h).2⟩
theorem zE0{r:zn}{t:Nat}{sv:SV} :∀ {l:List (Nat×SV)},(t,sv)∈zHs r l→(t,sv)∈l∧(∀q m o n ag,sv≠ .ref r q m o n ag)
 |[],h=>by cases h
 | (t',sv') :: l,h => by
  have key:∀ {sv':SV},(∀q m o n ag,sv'≠ .ref r q m o n ag)→(t,sv)∈(t',sv')::zHs r l→(t,sv)∈(t',sv')::l∧(∀q m o n ag,sv≠ .ref r q m o n ag):=by
   intro sv' hk hm
   rcases List.mem_cons.1 hm with e|hm
   ·cases e
    exact⟨List.mem_cons_self,hk⟩
   ·exact⟨List.mem_cons_of_mem _ (zE0 hm).1,(zE0 hm).2⟩
  cases sv' with
  | ref r' q m o n ag =>
   simp only[zHs]at h
   cases hh:r'.eqb r with
   |true=>
    simp only[hh,cond_true]at h
    exact⟨List.mem_cons_of_mem _ (zE0 h).1,(zE0 h).2⟩
   |false=>
    simp only[hh,cond_false]at h
    exact key (sv':=.ref r' q m o n ag) (fun q2 m2 o2 n2 ag2 e=>by cases e;exact ZI hh rfl) h
  |adr r' q m o=>exact key (sv':=.adr r' q m o) (fun _ _ _ _ _ e=>by cases e) h
  |val ag cs=>exact key (sv':=.val ag cs) (fun _ _ _ _ _ e=>by cases e) h
  |fad cs=>exact key (sv':=.fad cs) (fun _ _ _ _ _ e=>by cases e) h
  |tup vs=>exact key (sv':=.tup vs) (fun _ _ _ _ _ e=>by cases e) h
def St.modR(kd:Bool)(st:St)(r:zn)(q:List (Nat×Nat))(f:List CV→List CV):Option St:=match r with
 |.slot t=>match lk st.s t with
  |some (.val ag cs)=>some { st with s:=(t,.val ag (zC1 f cs q))::bif kd then zOU t (zHs (.slot t) st.s)else zEQ (.slot t) st.s }
  |_=>none
 | .box k => match lk st.b k with
  |some cs=>match q with
   |(0,0)::q=>some { st with s:=bif kd then zHs (.box k) st.s else dropD (.box k) st.s,b:=(k,zC1 f cs q)::zHr (.box k) st.b }
   |_=>none
  |none=>none
where
 dropD (r:zn):List (Nat×SV)→List (Nat×SV)
  |[]=>[]
  | (t,sv) :: l => match sv with
   |.ref r' q m o n ag=>bif r'.eqb r then dropD r l else(t,.ref r' q m o n ag)::dropD r l
   |.adr r' q m o=>match q with
    |[(0,0)]=>(t,.adr r' q m o)::dropD r l
    |_=>bif r'.eqb r then dropD r l else(t,.adr r' q m o)::dropD r l
   |sv=>(t,sv)::dropD r l
def SV.offD(r:zn):SV→Prop
 |.ref r' _ _ _ _ _=>r'≠r
 |.adr r' q _ _=>r'≠r∨q=[(0,0)]
 |_=>True
theorem zDq{r:zn}{t:Nat}{sv:SV} :∀ {l:List (Nat×SV)},(t,sv)∈St.modR.dropD r l→(t,sv)∈l∧sv.offD r
 |[],h=>by cases h
 | (t',sv') :: l,h => by
  have key:∀ {sv':SV},sv'.offD r→(t,sv)∈(t',sv')::St.modR.dropD r l→
    (t,sv)∈(t',sv')::l∧sv.offD r:=by
   intro sv' hk hm
   rcases List.mem_cons.1 hm with e|hm
   ·cases e
    exact⟨List.mem_cons_self,hk⟩
   ·exact⟨List.mem_cons_of_mem _ (zDq hm).1,(zDq hm).2⟩
  cases sv' with
  | ref r' q m o n ag =>
   simp only[St.modR.dropD]at h
   cases hh:r'.eqb r with
   |true=>
    simp only[hh,cond_true]at h
    exact⟨List.mem_cons_of_mem _ (zDq h).1,(zDq h).2⟩
   |false=>
    simp only[hh,cond_false]at h
    exact key (sv':=.ref r' q m o n ag) (ZI hh) h
  | adr r' q m o =>
   simp only[St.modR.dropD]at h
   split at h
   ·exact key (sv':=.adr r' [(0,0)] m o) (.inr rfl) h
   ·cases hh:r'.eqb r with
    |true=>
     simp only[hh,cond_true]at h
     exact⟨List.mem_cons_of_mem _ (zDq h).1,(zDq h).2⟩
    |false=>
     simp only[hh,cond_false]at h
     exact key (sv':=.adr r' q m o) (.inl (ZI hh)) h
  |val ag cs=>exact key (sv':=.val ag cs) trivial h
  |fad cs=>exact key (sv':=.fad cs) trivial h
  |tup vs=>exact key (sv':=.tup vs) trivial h
end Go.TL
