import Derived.Test.YticeglbllcelaaaGreatTlA
namespace Go.TL
def zAM:List CV→List (Nat×Nat)→Option (List CV)
 |cs,[]=>some cs
 | cs,(j,i) :: q => match cs[j]? with
  |some (.sl true _ es)=>match es[i]? with
   |some e=>zAM e q
   |none=>none
  |_=>none
def zC1(f:List CV→List CV):List CV→List (Nat×Nat)→List CV
 |cs,[]=>f cs
 | cs,(j,i) :: q => match cs[j]? with
  |some (.sl true sz es)=>match es[i]? with
   |some e=>cs.set j (.sl true sz (es.set i (zC1 f e q)))
   |none=>cs
  |_=>cs
def qj:List (Nat×Nat)→Zu
 |[]=>[]
 |(j,i)::q=>j::i::qj q
def spine:List (Nat×Nat)→Zu
 |[]=>[]
 |[(j,_)]=>[j]
 |(j,i)::q=>j::i::spine q
def ZH:List (Nat×Nat)→Nat
 |[]=>0
 |[(_,i)]=>i
 |_::q=>ZH q
theorem zGy:∀(q:List (Nat×Nat)),q≠ []→qj q=spine q++[ZH q]
 |[],h=>absurd rfl h
 |[(j,i)],_=>rfl
 |(j,i)::y::q,_=>by
  have:=zGy (y::q) (by simp)
  simp only[qj,spine,ZH]at this⊢
  rw[this];rfl
theorem zBA{cs:List CV}{j i:Nat}{q:List (Nat×Nat)}{e:List CV}(h:zAM cs ((j,i)::q)=some e):
  ∃sz es e1,cs[j]? =some (.sl true sz es)∧es[i]? =some e1∧zAM e1 q=some e:=by
 simp only[zAM]at h
 split at h
 ·rename_i sz es h1
  split at h
  ·rename_i e1 h2
   exact⟨sz,es,e1,h1,h2,h⟩
  ·cases h
 ·cases h
theorem zAG{f:List CV→List CV}{cs:List CV}{j i sz:Nat}{q:List (Nat×Nat)}{es:List (List CV)}{e1:List CV}(h1:cs[j]? =some (.sl true sz es))(h2:es[i]? =some e1):
  zC1 f cs ((j,i)::q)=cs.set j (.sl true sz (es.set i (zC1 f e1 q))):=by
 simp only[zC1,h1,h2]
theorem JM{es:List (List CV)}{i j:Nat}{e:List CV}{c:CV}(h1:es[i]? =some e)(h2:e[j]? =some c):elC es i j=some c:=by
 simp[elC,h1,h2]
theorem JZ{es:List (List CV)}{i j:Nat}{c:CV}(h:elC es i j=some c):∃e,es[i]? =some e∧e[j]? =some c:=by
 unfold elC at h
 cases he:es[i]? with
 |none=>rw[he]at h;cases h
 |some e=>rw[he]at h;exact⟨e,rfl,h⟩
theorem Qg.own_inv{w Z ω p v sz es}(h:Qg w Z ω p v (.sl true sz es))(hne:es≠ []):
  ∃(b cap:Nat) (us:Nat→Nat→Value) (cur:Array Value) (T:TypeId),v=.slice (some ⟨b,0,none⟩) es.length cap∧ω b=some p∧w.heap[b]? =some (.cells cur T (0,0))∧es.length≤cap∧cap≤maxLen∧cur.size=cap*sz∧(∀e∈es,e.length=sz)∧
   (∀i j c,elC es i j=some c→cur[i*sz+j]? =some (us i j))∧(∀i j c,elC es i j=some c→Qg w Z ω (p++[i,j]) (us i j) c):=by
 cases h with
 |nil=>exact absurd rfl hne
 |own _ b cap _ _ us cur T hω hb hcap hm hcs hsz hc hr=>exact⟨b,cap,us,cur,T,rfl,hω,hb,hcap,hm,hcs,hsz,hc,hr⟩
theorem zDH{w:World}{b:Nat}{cur:Array Value}{T:TypeId}{fz:Nat×Nat}(h:w.heap[b]? =some (.cells cur T fz))(k:Nat):w.cell? ⟨b,k,none⟩=cur[k]? :=by
 rw[World.cell?];simp[h]
theorem Qg.row{w Z ω p sz es}{us:Nat→Nat→Value}{i:Nat}{e1:List CV}(he:es[i]? =some e1)(hr:∀i j c,elC es i j=some c→Qg w Z ω (p++[i,j]) (us i j) c)
  (_hsz:∀e∈es,e.length=sz):Ze w Z ω (p++[i]) ((List.range e1.length).map (us i)) e1:=by
 refine⟨by simp,fun j c u hc hu=>?_⟩
 have hj:j<e1.length:=(List.getElem?_eq_some_iff.1 hc).1
 rw[List.getElem?_map,List.getElem?_range hj]at hu
 have:us i j=u:=by simpa using hu
 subst this
 have:=hr i j c (JM he hc)
 rwa[show p++[i]++[j]=p++[i,j] by simp]
theorem zKd{w:World}{Z:JI}{ω:Own} :∀(q:List (Nat×Nat)) (p:Zu) (us:List Value) (cs e:List CV),q≠ []→Ze w Z ω p us cs→zAM cs q=some e→
  ∃b cur T,ω b=some (p++spine q)∧w.heap[b]? =some (.cells cur T (0,0))∧
   ∀(j:Nat) c,e[j]? =some c→∃u,cur[ZH q*e.length+j]? =some u∧Qg w Z ω (p++qj q++[j]) u c
 |[],_,_,_,_,h,_,_=>absurd rfl h
 | [(j,i)],p,us,cs,e,_,h,hg => by
  obtain⟨sz,es,e1,h1,h2,h3⟩:=zBA hg
  simp only[zAM,Option.some.injEq]at h3
  subst h3
  obtain⟨u,hu,hR⟩:=h.get h1
  have hne:es≠ []:=by intro h0;rw[h0]at h2;cases h2
  obtain⟨b,cap,us',cur,T,rfl,hω,hb,hcap,hm,hcs,hsz,hc,hr⟩:=hR.own_inv hne
  refine⟨b,cur,T,hω,hb,fun k c hk=>⟨us' i k,?_,?_⟩⟩
  ·have:=hc i k c (JM h2 hk)
   have he:e1.length=sz:=hsz e1 (List.mem_of_getElem? h2)
   simp only[ZH,he]
   exact this
  ·have:=hr i k c (JM h2 hk)
   simpa [qj]using this
 | (j,i) :: y :: q,p,us,cs,e,_,h,hg => by
  obtain⟨sz,es,e1,h1,h2,h3⟩:=zBA hg
  obtain⟨u,hu,hR⟩:=h.get h1
  have hne:es≠ []:=by intro h0;rw[h0]at h2;cases h2
  obtain⟨b,cap,us',cur,T,rfl,hω,hb,hcap,hm,hcs,hsz,hc,hr⟩:=hR.own_inv hne
  have hrow:=Qg.row h2 hr hsz
  obtain⟨b2,cur2,T2,g1,g2,g3⟩:=zKd (y::q) _ _ _ e (by simp) hrow h3
  refine⟨b2,cur2,T2,?_,g2,fun k c hk=>?_⟩
  ·rw[g1];simp[spine]
  ·obtain⟨u2,k1,k2⟩:=g3 k c hk
   refine⟨u2,by simpa [ZH]using k1,?_⟩
   simpa [qj]using k2
theorem zIb{w:World}{b:Nat}{cur:Array Value}{T:TypeId}{fz:Nat×Nat}(h:w.heap[b]? =some (.cells cur T fz))(k:Nat)(u:Value):
  (w.setCell ⟨b,k,none⟩ u).heap[b]? =some (.cells (cur.setIfInBounds k u) T fz):=by
 simp[World.setCell,Array.getElem?_modify,h]
theorem qE{w:World}{b b':Nat}(k:Nat)(u:Value)(h:b'≠b):(w.setCell ⟨b,k,none⟩ u).heap[b']? =w.heap[b']? :=Go.RowKit.Below.heap_setCell w ⟨b,k,none⟩ u b' h
theorem zOg{i i' sz o j:Nat}(ho:o<sz)(hj:j<sz)(h:i'*sz+j=i*sz+o):i'=i∧j=o:=by
 have hp:0<sz:=by omega
 have h1:(i'*sz+j) / sz=i':=by rw[Nat.add_comm,Nat.add_mul_div_right _ _ hp,Nat.div_eq_of_lt hj,Nat.zero_add]
 have h2:(i*sz+o) / sz=i:=by rw[Nat.add_comm,Nat.add_mul_div_right _ _ hp,Nat.div_eq_of_lt ho,Nat.zero_add]
 have:i'=i:=by rw[←h1,←h2,h]
 subst this
 exact⟨rfl,by omega⟩
theorem Ze.store{w:World}{Z:JI}{ω ω':Own}{b k:Nat}{u':Value}{c':CV}{o:Nat}(hZ:∀b p,Z b→ω b≠some p):∀(q:List (Nat×Nat)) (p:Zu) (us:List Value) (cs e:List CV),
  q≠ []→Ze w Z ω p us cs→zAM cs q=some e→o<e.length→ω b=some (p++spine q)→(∀b2,ω b2=some (p++spine q)→b2=b)→k=ZH q*e.length+o→
  Qg (w.setCell ⟨b,k,none⟩ u') Z ω' (p++qj q++[o]) u' c'→
  (∀b r,ω b=some (p++r)→¬(qj q++[o]) <+: r→ω' b=some (p++r))→
  Ze (w.setCell ⟨b,k,none⟩ u') Z ω' p us (zC1 (·.set o c') cs q)
 |[],_,_,_,_,h,_,_,_,_,_,_,_,_=>absurd rfl h
 | [(j,i)],p,us,cs,e,_,h,hg,ho,hb,huni,hk,hR',hω' => by
  obtain⟨sz,es,e1,h1,h2,h3⟩:=zBA hg
  simp only[zAM,Option.some.injEq]at h3
  subst h3
  rw[zAG h1 h2]
  simp only[zC1]
  have hZb:∀b0,Z b0→b0≠b:=fun b0 hz he=>by subst he;exact hZ _ _ hz hb
  refine⟨by rw[List.length_set];exact h.1,fun j' c u hc hu=>?_⟩
  by_cases hj:j'=j
  ·subst hj
   have hjl:j'<cs.length:=(List.getElem?_eq_some_iff.1 h1).1
   rw[List.getElem?_set_self hjl]at hc
   cases hc
   have hR:=h.2 j' _ u h1 hu
   have hne:es≠ []:=by intro h0;rw[h0]at h2;cases h2
   obtain⟨b1,cap,us',cur,T,rfl,hω,hb1,hcap,hm,hcs,hsz,hcc,hr⟩:=hR.own_inv hne
   have hbb:b1=b:=huni b1 (by rw[hω];simp[spine])
   subst hbb
   have hil:i<es.length:=(List.getElem?_eq_some_iff.1 h2).1
   have hes:e1.length=sz:=hsz e1 (List.mem_of_getElem? h2)
   have hk':k=i*sz+o:=by rw[hk,hes];rfl
   have hin:i*sz+o<cur.size:=by
    have:=hcc i o e1[o] (JM h2 (List.getElem?_eq_getElem ho))
    exact(Array.getElem?_eq_some_iff.1 this).1
   have hlen:(es.set i (e1.set o c')).length=es.length:=List.length_set
   rw[←hlen]
   have hsz':∀e∈es.set i (e1.set o c'),e.length=sz:=fun e he=>by
    rcases List.mem_or_eq_of_mem_set he with he|rfl
    ·exact hsz e he
    ·rw[List.length_set];exact hes
   have hel:∀i' j2 c,elC (es.set i (e1.set o c')) i' j2=some c→(i'=i∧j2=o∧c=c')∨(¬(i'=i∧j2=o)∧elC es i' j2=some c∧j2<sz):=by
    intro i' j2 c hel
    obtain⟨e',g1,g2⟩:=JZ hel
    have hj2:j2<sz:=by rw[←hsz' e' (List.mem_of_getElem? g1)];exact(List.getElem?_eq_some_iff.1 g2).1
    by_cases hi:i'=i
    ·subst hi
     rw[List.getElem?_set_self hil]at g1
     cases g1
     by_cases hjo:j2=o
     ·subst hjo
      rw[List.getElem?_set_self ho]at g2
      exact .inl ⟨rfl,rfl,(Option.some.inj g2).symm⟩
     ·rw[List.getElem?_set_ne (Ne.symm hjo)]at g2
      exact .inr ⟨fun hh=>hjo hh.2,JM h2 g2,hj2⟩
    ·rw[List.getElem?_set_ne (Ne.symm hi)]at g1
     exact .inr ⟨fun hh=>hi hh.1,JM g1 g2,hj2⟩
   have hosz:o<sz:=by rw[←hes];exact ho
   refine .own _ b1 cap sz _ (fun i' j2=>if i'=i∧j2=o then u' else us' i' j2) (cur.setIfInBounds k u') T ?_ (zIb hb1 k u') (by rw[hlen];exact hcap) hm (by rw[Array.size_setIfInBounds];exact hcs) hsz' ?_ ?_
   ·refine hω' b1 [j'] hω ?_
    simp[qj]
   ·intro i' j2 c hc
    rcases hel i' j2 c hc with⟨rfl,rfl,_⟩|⟨hn,hold,hj2⟩
    ·simp only[true_and,if_true,hk']
     rw[Array.getElem?_setIfInBounds]
     simp[hin]
    ·simp only[hn,if_false]
     rw[Array.getElem?_setIfInBounds,if_neg]
     ·exact hcc i' j2 c hold
     ·intro heq
      rw[hk']at heq
      have:=zOg hosz hj2 heq.symm
      exact hn this
   ·intro i' j2 c hc
    rcases hel i' j2 c hc with⟨rfl,rfl,rfl⟩|⟨hn,hold,hj2⟩
    ·simp only[true_and,if_true]
     simpa [qj]using hR'
    ·simp only[hn,if_false]
     refine(hr i' j2 c hold).conv _ (fun b0 hz=>⟨hz,qE _ _ (hZb b0 hz)⟩) fun b0 r hb0=>⟨?_,qE _ _ ?_⟩
     ·have:=hω' b0 ([j']++[i',j2]++r) (by rw[hb0];simp) (by simp only[qj];intro hp;simp at hp;exact hn ⟨hp.1.symm,hp.2.symm⟩)
      rw[this];simp
     ·intro he
      subst he
      rw[hb]at hb0
      simp[spine]at hb0
  ·rw[List.getElem?_set_ne (Ne.symm hj)]at hc
   refine(h.2 j' c u hc hu).conv _ (fun b0 hz=>⟨hz,qE _ _ (hZb b0 hz)⟩) fun b0 r hb0=>⟨?_,qE _ _ ?_⟩
   ·have:=hω' b0 ([j']++r) (by rw[hb0];simp) (by simp only[qj];intro hp;simp at hp;exact hj hp.1.symm)
    rw[this];simp
   ·intro he
    subst he
    rw[hb]at hb0
    simp[spine]at hb0
    exact hj hb0.1.symm
 | (j,i) :: y :: q,p,us,cs,e,_,h,hg,ho,hb,huni,hk,hR',hω' => by
  obtain⟨sz,es,e1,h1,h2,h3⟩:=zBA hg
  rw[zAG h1 h2]
  have hZb:∀b0,Z b0→b0≠b:=fun b0 hz he=>by subst he;exact hZ _ _ hz hb
  refine⟨by rw[List.length_set];exact h.1,fun j' c u hc hu=>?_⟩
  by_cases hj:j'=j
  ·subst hj
   have hjl:j'<cs.length:=(List.getElem?_eq_some_iff.1 h1).1
   rw[List.getElem?_set_self hjl]at hc
   cases hc
   have hR:=h.2 j' _ u h1 hu
   have hne:es≠ []:=by intro h0;rw[h0]at h2;cases h2
   obtain⟨b1,cap,us',cur,T,rfl,hω,hb1,hcap,hm,hcs,hsz,hcc,hr⟩:=hR.own_inv hne
   have hil:i<es.length:=(List.getElem?_eq_some_iff.1 h2).1
   have hes:e1.length=sz:=hsz e1 (List.mem_of_getElem? h2)
   have hrow:=Qg.row h2 hr hsz
   have hne1:b1≠b:=by
    intro he
    subst he
    rw[hω]at hb
    simp[spine]at hb
   have ih:=Ze.store (ω':=ω') (b:=b) (k:=k) (u':=u') (c':=c') (o:=o) hZ (y::q) _ _ e1 e (by simp) hrow h3 ho
    (by rw[hb];simp[spine]) (fun b2 h2=>huni b2 (by rw[h2];simp[spine])) (by rw[hk];simp[ZH]) (by simpa [qj]using hR')
    (fun b0 r hb0 hp=>by
     have:=hω' b0 ([j',i]++r) (by rw[hb0];simp) (by intro hp2;apply hp;simpa [qj]using hp2)
     rw[this];simp)
   have hlen:(es.set i (zC1 (·.set o c') e1 (y::q))).length=es.length:=List.length_set
   rw[←hlen]
   have hsz':∀e∈es.set i (zC1 (·.set o c') e1 (y::q)),e.length=sz:=fun e he=>by
    rcases List.mem_or_eq_of_mem_set he with he|rfl
    ·exact hsz e he
    ·have:=ih.1
     simp at this
     rw[←this];exact hes
   refine .own _ b1 cap sz _ us' cur T ?_ ((qE _ _ hne1).trans hb1) (by rw[hlen];exact hcap) hm hcs hsz' ?_ ?_
   ·refine hω' b1 [j'] hω ?_
    simp[qj]
   ·intro i' j2 c hc
    obtain⟨e',g1,g2⟩:=JZ hc
    by_cases hi:i'=i
    ·subst hi
     rw[List.getElem?_set_self hil]at g1
     cases g1
     have hj2:j2<e1.length:=by
      have:=(List.getElem?_eq_some_iff.1 g2).1
      have h4:=ih.1
      simp at h4
      omega
     exact hcc i' j2 e1[j2] (JM h2 (List.getElem?_eq_getElem hj2))
    ·rw[List.getElem?_set_ne (Ne.symm hi)]at g1
     exact hcc i' j2 c (JM g1 g2)
   ·intro i' j2 c hc
    obtain⟨e',g1,g2⟩:=JZ hc
    by_cases hi:i'=i
    ·subst hi
     rw[List.getElem?_set_self hil]at g1
     cases g1
     have hj2:j2<e1.length:=by
      have:=(List.getElem?_eq_some_iff.1 g2).1
      have h4:=ih.1
      simp at h4
      omega
     have:=ih.2 j2 c (us' i' j2) g2 (by rw[List.getElem?_map,List.getElem?_range hj2];rfl)
     simpa using this
    ·rw[List.getElem?_set_ne (Ne.symm hi)]at g1
     refine(hr i' j2 c (JM g1 g2)).conv _ (fun b0 hz=>⟨hz,qE _ _ (hZb b0 hz)⟩) fun b0 r hb0=>⟨?_,qE _ _ ?_⟩
     ·have:=hω' b0 ([j']++[i',j2]++r) (by rw[hb0];simp) (by simp only[qj];intro hp;simp at hp;exact hi hp.1.symm)
      rw[this];simp
     ·intro he
      subst he
      rw[hb]at hb0
      simp[spine]at hb0
      exact hi hb0.1.symm
  ·rw[List.getElem?_set_ne (Ne.symm hj)]at hc
   refine(h.2 j' c u hc hu).conv _ (fun b0 hz=>⟨hz,qE _ _ (hZb b0 hz)⟩) fun b0 r hb0=>⟨?_,qE _ _ ?_⟩
   ·have:=hω' b0 ([j']++r) (by rw[hb0];simp) (by simp only[qj];intro hp;simp at hp;exact hj hp.1.symm)
    rw[this];simp
   ·intro he
    subst he
    rw[hb]at hb0
    simp[spine]at hb0
    exact hj hb0.1.symm
end Go.TL
