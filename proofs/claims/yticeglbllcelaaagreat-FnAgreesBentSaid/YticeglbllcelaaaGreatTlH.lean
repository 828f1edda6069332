import Derived.Test.YticeglbllcelaaaGreatTlG
set_option linter.unusedVariables false
namespace Go.TL
theorem Ji{f:List CV→List CV} :∀ {q:List (Nat×Nat)} {cs e:List CV},zAM cs q=some e→(f e).length=e.length→(zC1 f cs q).length=cs.length
 |[],cs,e,hg,hl=>by
  simp only[zAM,Option.some.injEq]at hg
  subst hg
  exact hl
 |(j,i)::q,cs,e,hg,hl=>by
  obtain⟨sz,es,e1,h1,h2,h3⟩:=zBA hg
  rw[zAG h1 h2,List.length_set]
theorem zPh{kd:Bool}{r:zn}{t:Nat}{sv:SV}{l:List (Nat×SV)}(h:(t,sv)∈(bif kd then zHs r l else St.modR.dropD r l)):
  (t,sv)∈l∧(∀q m o n ag,sv≠ .ref r q m o n ag)∧(kd=false→∀q m o,sv=.adr r q m o→q=[(0,0)]):=by
 cases kd with
 |true=>
  simp only[cond_true]at h
  exact⟨(zE0 h).1,(zE0 h).2,fun h=>by cases h⟩
 |false=>
  simp only[cond_false]at h
  obtain⟨h1,h2⟩:=zDq h
  refine⟨h1,fun q m o n ag e=>?_,fun _ q m o e=>?_⟩
  ·subst e;exact h2 rfl
  ·subst e;exact h2.resolve_left (fun h=>h rfl)
theorem Rel.modR{cx st a w Z ω}(h:Rel cx st a w Z ω){kd:Bool}{r:zn}{q:List (Nat×Nat)}{f:List CV→List CV}{st':St}{row:List CV}{w':World}{Z':JI}{ω':Own}
  (hst:st.modR kd r q f=some st') (hrow:rowOf st r=some row) (hlen:(zC1 f row q).length=row.length)
  (hbox:∀cells,row=[.sl true cells.length [cells]]→∀q',q=(0,0)::q'→(zC1 f cells q').length=cells.length)
  (hR:∃us,Ze w' Z' ω' r.path us (zC1 f row q)∧∀t,r=.slot t→us=(a.tmps.getD t undef).cells.toList) (inv:Inv cx w' Z' ω')
  (hz:∀b,Z b→Z' b∧w'.heap[b]? =w.heap[b]?) (ho:∀r',r'≠r→∀b x,ω b=some (r'.path++x)→ω' b=some (r'.path++x)∧w'.heap[b]? =w.heap[b]?)
  (hk:kd=true→ω'=ω) (hsp:∀k,r=.box k→∀b,ω b=some [1,k,0]→ω' b=some [1,k,0]):Rel cx st' a w' Z' ω':=by
 have hsame:Same (· =r) w w' Z Z' ω ω' a.tmps a.tmps:=⟨hz,ho,fun t _=>rfl⟩
 have hent:∀t sv,(t,sv)∈(bif kd then zHs r st.s else St.modR.dropD r st.s)→zn.slot t≠r→(kd=true∨∃k,r=.box k)→(((t,sv)∈st.s∧sv.apart t (· =r))∨zMl w' Z' ω' a.tmps t (a.tmps.getD t undef) sv):=by
  intro t sv hm htr hkb
  obtain⟨h1,h2,h3⟩:=zPh hm
  cases sv with
  |ref r' q' m o n ag=>exact .inl ⟨h1,⟨fun e=>h2 q' m o n ag (by rw[e]),htr⟩⟩
  | adr r' q' m o =>
   by_cases e:r'=r
   ·subst e
    right
    obtain⟨b,g1,g2⟩:=h.hs t _ h1
    refine⟨b,?_,g2⟩
    cases hkd:kd with
    |true=>rw[hk hkd];exact g1
    |false=>
     obtain⟨k,rfl⟩:=hkb.resolve_left (by rw[hkd];simp)
     have hq:=h3 hkd q' m o rfl
     subst hq
     exact hsp k rfl b g1
   ·exact .inl ⟨h1,⟨e,htr⟩⟩
  |val ag cs=>exact .inl ⟨h1,htr⟩
  |fad cs=>exact .inl ⟨h1,htr⟩
  |tup vs=>exact .inl ⟨h1,htr⟩
 cases r with
 | slot t =>
  simp only[St.modR]at hst
  split at hst
  ·rename_i ag cs hl
   cases hst
   have hrow':row=cs:=by simp only[rowOf,hl,Option.some.injEq]at hrow;exact hrow.symm
   subst hrow'
   refine h.step (· =.slot t) hsame inv h.nt h.df h.pin (fun t' sv hm=>?_) (fun k cs hm=>.inl ⟨hm,fun e=>by cases e⟩)
   rcases List.mem_cons.1 hm with e|hm
   ·cases e
    right
    have hh:=h.hs t _ (zw hl)
    obtain⟨us,k1,k2⟩:=hR
    have:=k2 t rfl
    subst this
    exact⟨hh.1,k1⟩
   ·cases hkd:kd with
    |true=>
     rw[hkd]at hm
     simp only[cond_true]at hm
     have:=zGC hm
     exact hent t' sv (by rw[hkd];exact this.1) (fun e=>this.2 (by cases e;rfl)) (.inl hkd)
    |false=>
     rw[hkd]at hm
     simp only[cond_false]at hm
     have:=QS hm
     exact .inl ⟨this.1,QQ this.2⟩
  ·cases hst
 | box k =>
  simp only[St.modR]at hst
  split at hst
  ·rename_i cs hl
   split at hst
   ·rename_i q'
    cases hst
    have hrow':row=[.sl true cs.length [cs]]:=by simp only[rowOf,hl,Option.some.injEq]at hrow;exact hrow.symm
    subst hrow'
    refine h.step (· =.box k) hsame inv h.nt h.df h.pin (fun t' sv hm=>hent t' sv hm (fun e=>by cases e) (.inr ⟨k,rfl⟩)) (fun k' cs' hm=>?_)
    rcases List.mem_cons.1 hm with e|hm
    ·cases e
     right
     obtain⟨us,k1,_⟩:=hR
     have hl1:=k1.1
     rw[hlen]at hl1
     obtain⟨u,rfl⟩:∃u,us=[u]:=by
      match us,hl1 with
      |[u],_=>exact⟨u,rfl⟩
     refine⟨u,?_⟩
     rw[hbox cs rfl q' rfl]
     exact k1
    ·left
     have:=zBB hm
     exact⟨this.1,fun e=>by have h2:=ZI this.2;exact h2 e⟩
   ·cases hst
  ·cases hst
def zEa(w:World)(Z:JI)(ω:Own)(p:Zu)(o:Nat)(us:List Value)(cs:List CV):Prop:=
 us.length=cs.length∧∀(j:Nat) c u,cs[j]? =some c→us[j]? =some u→Qg w Z ω (p++[o+j]) u c
theorem zEa.zero{w Z ω p us cs} :zEa w Z ω p 0 us cs↔Ze w Z ω p us cs:=by
 unfold zEa Ze
 simp only[Nat.zero_add]
theorem zEa.conv{w w':World}{Z Z':JI}{ω ω':Own}{p p':Zu}{o o':Nat}{us:List Value}{cs:List CV}(h:zEa w Z ω p o us cs)
  (h1:∀b,Z b→Z' b∧w'.heap[b]? =w.heap[b]?) (h2:∀b j r,j<cs.length→ω b=some (p++(o+j)::r)→ω' b=some (p'++(o'+j)::r)∧w'.heap[b]? =w.heap[b]?):zEa w' Z' ω' p' o' us cs:=by
 refine⟨h.1,fun j c u hc hu=>(h.2 j c u hc hu).conv _ h1 fun b r hb=>?_⟩
 have hj:j<cs.length:=(List.getElem?_eq_some_iff.1 hc).1
 have:=h2 b j r hj (by rw[hb];simp)
 rw[this.1]
 exact⟨by simp,this.2⟩
theorem zEa.moved{w Z ω S o D o2 us cs}(h:zEa w Z ω S o us cs):zEa w Z (Jt S o cs.length D o2 ω) D o2 us cs:=
 h.conv (fun b hb=>⟨hb,rfl⟩) fun b j r hj hb=>⟨zBq hb hj,rfl⟩
structure Tk where
 ag:Bool
 cs:List CV
 st:St
def Yp(T:Nat→Option TI)(st:St)(ty:TypeId)(x:Operand):Option Tk:=match x with
 |.const v=>match evS T st ty (.const v)with
  |some (.val ag cs)=>some ⟨ag,cs,st⟩
  |_=>none
 | .tmp t => match lk st.s t with
  |some (.val ag cs)=>bif zZ cs then some ⟨ag,cs,st⟩else some ⟨ag,cs,{ st with s:=zEQ (.slot t) st.s }⟩
  | some (.ref r q m o n ag) => match rowOf st r with
   | some row => match zAM row q with
    | some e => bif (q.isEmpty || e.length == m) && Nat.ble (o + n) e.length then
      (bif zZ ((e.drop o).take n)then some ⟨ag,(e.drop o).take n,st⟩else
       match q with
       |[]=>some ⟨ag,(e.drop o).take n,{ st with s:=zEQ r st.s }⟩
       |_::_=>match st.modR false r q (zLA o n)with
        |some st'=>some ⟨ag,(e.drop o).take n,st'⟩
        |none=>none)
     else none
    |none=>none
   |none=>none
  |_=>none
 |_=>none
theorem Yo(r:zn)(k:Nat)(x y:Zu):r.path++x≠ [2,k]++y:=by
 cases r<;>simp[zn.path]
theorem zA9{r:zn}{k o n:Nat}{x:Zu} :inR [2,k] o n (r.path++x)=none:=
 qS fun j r' h=>absurd h (Yo r k x _)
theorem Y2{r r':zn}(h:r'≠r){S:Zu}{o n:Nat}{x:Zu} :inR (r.path++S) o n (r'.path++x)=none:=
 qS fun j r2 h2=>by
  rw[List.append_assoc]at h2
  exact absurd (Zw h2).1 h
theorem zKM{k k' o n:Nat}(h:k'≠k){x:Zu} :inR [2,k] o n (2::k'::x)=none:=
 qS fun j r2 h2=>by simp at h2;exact absurd h2.1 h
theorem Jv{T:Nat→Option TI}{cx st a w Z ω}(h:Rel cx st a w Z ω){ty:TypeId}{x:Operand}{tk:Tk}(hx:Yp T st ty x=some tk)(k:Nat):
  ∃ω',Rel cx tk.st a w Z ω'∧shp tk.ag (a.eval x)∧Ze w Z ω' [2,k] (a.eval x).cells.toList tk.cs∧tk.st.n=st.n∧(∀k',k'≠k→∀b y,ω b=some (2::k'::y)→ω' b=some (2::k'::y)):=by
 cases x with
 | const v =>
  simp only[Yp]at hx
  split at hx
  ·rename_i ag cs he
   cases hx
   have hs:=zNM h he (d:=0) rfl (v':=undef)
   refine⟨ω,h,hs.1,?_,rfl,fun _ _ _ _ h=>h⟩
   refine⟨hs.2.1,fun j c u hc hu=>?_⟩
   have:=hs.2.2 j c u hc hu
   cases this with
   |lit _ _ h=>exact .lit _ _ h
   |dead _ _ h=>exact .dead _ _ h
   |nil _ own sz=>exact .nil _ own sz
   |fro _ A cap sz es us hs hZ hcap hm hsz hf hcc hr=>exact(Qg.fro _ A cap sz es us hs hZ hcap hm hsz hf hcc hr).flat_conv rfl _ fun b hb=>⟨hb,rfl⟩
   | own _ b cap sz es us cur T' hω hb hcap hm hcs hsz hcc hr =>
    exfalso
    simp only[evS]at he
    split at he
    ·have hv:a.eval (.const (.slice none 0 0))=.slice none 0 0:=rfl
     cases j with
     |zero=>
      rw[hv]at hu
      cases hu
     |succ j=>rw[hv]at hu;simp[Value.cells]at hu
    ·rename_i hne
     cases hone:v.oneCell' with
     |true=>
      simp only[hone,cond_true,Option.some.injEq,SV.val.injEq]at he
      obtain⟨_,rfl⟩:=he
      cases j with
      |zero=>cases hc
      |succ j=>simp at hc
     |false=>simp[hone]at he
  ·cases hx
 | tmp t =>
  simp only[Yp]at hx
  split at hx
  ·rename_i ag cs hl
   have hs:=h.hs t _ (zw hl)
   cases hf:zZ cs with
   |true=>
    simp only[hf,cond_true,Option.some.injEq]at hx
    subst hx
    exact⟨ω,h,hs.1,hs.2.flat_conv hf _ fun b hb=>⟨hb,rfl⟩,rfl,fun _ _ _ _ h=>h⟩
   | false =>
    simp only[hf,cond_false,Option.some.injEq]at hx
    subst hx
    have hm:zEa w Z (Jt [0,t] 0 cs.length [2,k] 0 ω) [2,k] 0 _ cs:=(zEa.zero.2 hs.2).moved
    refine⟨Jt [0,t] 0 cs.length [2,k] 0 ω,?_,hs.1,zEa.zero.1 hm,rfl,fun k' hk' b y hb=>?_⟩
    ·refine h.step (· =.slot t) ⟨fun b hb=>⟨hb,rfl⟩,fun r hr b x hb=>⟨?_,rfl⟩,fun _ _=>rfl⟩ (h.inv.reloc _ _ _ _ _) h.nt h.df h.pin (fun t' sv hm=>?_) (fun k cs hm=>.inl ⟨hm,fun e=>by cases e⟩)
     ·exact qk hb (by have:=Y2 (r:=.slot t) hr (S:=[]) (o:=0) (n:=cs.length) (x:=x);simpa [zn.path]using this) zA9
     ·have:=QS hm
      exact .inl ⟨this.1,QQ this.2⟩
    ·exact qk hb (qS fun j r h=>by simp at h) (zKM hk')
  ·rename_i r q m o n ag hl
   split at hx
   ·rename_i row hrow
    split at hx
    ·rename_i e hg
     cases hc:((q.isEmpty||e.length==m)&&Nat.ble (o+n) e.length)with
     |false=>simp only[hc,cond_false]at hx;cases hx
     | true =>
      simp only[hc,cond_true]at hx
      have hc':(q=[]∨e.length=m)∧o+n≤e.length:=by simpa using hc
      obtain⟨k1,k2,k3⟩:=zJ4 h hl hrow hg hc'.1
      have hlen:((e.drop o).take n).length=n:=by simp;omega
      have hev:a.eval (.tmp t)=a.tmps.getD t undef:=rfl
      have hR:zEa w Z ω (r.path++qj q) o (a.eval (.tmp t)).cells.toList ((e.drop o).take n):=by
       refine⟨by rw[hlen,hev,Array.length_toList];exact k2,fun j c u hcc hu=>?_⟩
       have hj:j<n:=by have:=(List.getElem?_eq_some_iff.1 hcc).1;omega
       rw[List.getElem?_take,if_pos hj,List.getElem?_drop]at hcc
       exact k3 j u c (by rw[hev]at hu;simpa using hu) hcc
      cases hf:zZ ((e.drop o).take n)with
      |true=>
       simp only[hf,cond_true,Option.some.injEq]at hx
       subst hx
       refine⟨ω,h,k1,⟨hR.1,fun j c u hcc hu=>?_⟩,rfl,fun _ _ _ _ h=>h⟩
       have:=hR.2 j c u hcc hu
       rw[qp,List.all_eq_true]at hf
       exact this.flat_conv (hf c (List.mem_of_getElem? hcc)) _ fun b hb=>⟨hb,rfl⟩
      | false =>
       simp only[hf,cond_false]at hx
       have hm:=hR.moved (D:=[2,k]) (o2:=0)
       rw[hlen]at hm
       have hoth:∀k',k'≠k→∀b y,ω b=some (2::k'::y)→Jt (r.path++qj q) o n [2,k] 0 ω b=some (2::k'::y):=fun k' hk' b y hb=>
        qk hb (qS fun j r' h=>by
         rw[List.append_assoc]at h
         exact absurd h.symm (Yo r k' _ y)) (zKM hk')
       cases q with
       | nil =>
        simp only[Option.some.injEq]at hx
        subst hx
        refine⟨_,?_,k1,zEa.zero.1 hm,rfl,hoth⟩
        refine h.step (· =r) ⟨fun b hb=>⟨hb,rfl⟩,fun r' hr b x hb=>⟨?_,rfl⟩,fun _ _=>rfl⟩ (h.inv.reloc _ _ _ _ _) h.nt h.df h.pin (fun t' sv hm=>?_) (fun k cs hm=>?_)
        ·exact qk hb (Y2 hr) zA9
        ·have:=QS hm
         exact .inl ⟨this.1,QQ this.2⟩
        ·left
         refine⟨hm,fun e=>?_⟩
         subst e
         obtain⟨g1,g2,g3⟩:=h.hs t _ (zw hl)
         cases hn:n with
         |zero=>subst hn;simp[zZ]at hf
         |succ n'=>
          have hsz:0<(a.tmps.getD t undef).cells.size:=by rw[g2];omega
          exact g3 0 _ (Array.getElem?_eq_getElem hsz)
       | cons y q =>
        simp only at hx
        split at hx
        ·rename_i st' hmod
         simp only[Option.some.injEq]at hx
         subst hx
         have hdl:=zMo (e:=e) hc'.2
         refine⟨_,?_,k1,zEa.zero.1 hm,?_,hoth⟩
         ·refine h.modR hmod hrow (Ji hg hdl) ?_ ?_ (h.inv.reloc _ _ _ _ _) (fun b hb=>⟨hb,rfl⟩) ?_ (fun h=>by cases h) ?_
          ·intro cells hcells q' hq'
           subst hcells
           rw[hq']at hg
           simp only[zAM,List.getElem?_cons_zero]at hg
           exact Ji hg hdl
          ·obtain⟨us,hus,husl⟩:=h.row hrow
           refine⟨us,?_,husl⟩
           refine zN6 (bad:=fun j=>o≤j∧j<o+n) (y::q) _ _ _ e hus hg hdl (fun us' hu'=>?_) (fun b r' hb hn=>?_)
           ·refine⟨by rw[hdl];exact hu'.1,fun j c u hcc hu=>?_⟩
            rw[zPZ hc'.2]at hcc
            split at hcc
            ·cases hcc
             have hj:j<e.length:=by omega
             exact .dead _ _ (hu'.2 j e[j] u (List.getElem?_eq_getElem hj) hu).one
            ·rename_i hj
             refine(hu'.2 j c u hcc hu).conv _ (fun b hb=>⟨hb,rfl⟩) fun b r2 hb=>⟨?_,rfl⟩
             exact qk hb (qS fun j2 r3 h=>by
              rw[List.append_assoc]at h
              have:=List.append_cancel_left h
              simp at this
              omega) (qS fun j2 r3 h=>by
              rw[List.append_assoc,List.append_assoc]at h
              exact absurd h (Yo r k _ _))
           ·exact qk hb (qS fun j2 r3 h=>by
             rw[List.append_assoc]at h
             have:=List.append_cancel_left h
             intro hj2
             exact hn ⟨o+j2,r3,this,by omega,by omega⟩) zA9
          ·intro r' hr' b x hb
           exact⟨qk hb (Y2 hr') zA9,rfl⟩
          ·intro k0 hk0 b hb
           subst hk0
           refine qk hb (qS fun j2 r3 h=>?_) (qS fun j2 r3 h=>by simp at h)
           have hl:=congrArg List.length h
           obtain⟨y1,y2⟩:=y
           simp[qj,zn.path]at hl
         ·cases hr:r with
          |slot t0=>
           rw[hr]at hmod
           simp only[St.modR]at hmod
           split at hmod
           ·cases hmod;rfl
           ·cases hmod
          | box k0 =>
           rw[hr]at hmod
           simp only[St.modR]at hmod
           split at hmod
           ·split at hmod
            ·cases hmod;rfl
            ·cases hmod
           ·cases hmod
        ·cases hx
    ·cases hx
   ·cases hx
  ·cases hx
 |global g=>simp[Yp]at hx
 |func f=>simp[Yp]at hx
end Go.TL
