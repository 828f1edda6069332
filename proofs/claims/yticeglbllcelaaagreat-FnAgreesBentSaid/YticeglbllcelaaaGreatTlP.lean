import Derived.Test.YticeglbllcelaaaGreatTlO
set_option linter.unusedVariables false
namespace Go.TL
structure YK where
 i:Nat
 ptr:Bool
 r:zn
 q:List (Nat×Nat)
 o:Nat
 n:Nat
def zn.num:zn→Nat
 |.slot t=>t
 |.box k=>k
def YK.lent(l:YK):zLI:=bif l.ptr then⟨[1],l.r.num,1,[1],l.i⟩else⟨l.r.path++qj l.q,l.o,l.n,[0,l.i],0⟩
def zMB(st:St)(r:zn)(q:List (Nat×Nat))(m o n:Nat):Option (List CV):=match rowOf st r with
 |some row=>match zAM row q with
  |some e=>bif (q.isEmpty||e.length==m)&&Nat.ble (o+n) e.length then some ((e.drop o).take n)else none
  |none=>none
 |none=>none
theorem zGj{cx st a w Z ω}(h:Rel cx st a w Z ω){t:Nat}{r:zn}{q:List (Nat×Nat)}{m o n:Nat}{ag:Bool}{c:List CV}(hl:lk st.s t=some (.ref r q m o n ag))(hc:zMB st r q m o n=some c):
  shp ag (a.tmps.getD t undef)∧zEa w Z ω (r.path++qj q) o (a.tmps.getD t undef).cells.toList c∧c.length=n∧∃row e,rowOf st r=some row∧zAM row q=some e∧(q=[]∨e.length=m)∧o+n≤e.length∧c=(e.drop o).take n:=by
 unfold zMB at hc
 split at hc
 ·rename_i row hrow
  split at hc
  ·rename_i e hg
   cases hcond:((q.isEmpty||e.length==m)&&Nat.ble (o+n) e.length)with
   |false=>simp[hcond]at hc
   |true=>
    simp only[hcond,cond_true,Option.some.injEq]at hc
    have hc':(q=[]∨e.length=m)∧o+n≤e.length:=by simpa using hcond
    obtain⟨k1,k2,k3⟩:=zJ4 h hl hrow hg hc'.1
    have hlen:((e.drop o).take n).length=n:=by simp;omega
    subst hc
    refine⟨k1,⟨by rw[hlen,Array.length_toList];exact k2,fun j c u hcc hu=>?_⟩,hlen,row,e,hrow,hg,hc'.1,hc'.2,rfl⟩
    have hj:j<n:=by have:=(List.getElem?_eq_some_iff.1 hcc).1;omega
    rw[List.getElem?_take,if_pos hj,List.getElem?_drop]at hcc
    exact k3 j u c (by simpa using hu) hcc
  ·cases hc
 ·cases hc
def zKE(T:Nat→Option TI)(st:St)(m:Mode)(ty:TypeId)(x:Operand)(i:Nat)(ow:Option (Bool×List CV)):Option (JX×Option zn×Option YK):=match m with
 |.own=>match ow with
  |some (ag,cs)=>some (.own ag cs,none,none)
  |none=>none
 | .rd => match x with
  |.const v=>match evS T st ty (.const v)with
   |some (.val ag cs)=>some (.val ag (qh cs),none,none)
   |_=>none
  | .tmp t => match lk st.s t with
   |some (.val ag cs)=>bif zZ cs then some (.val ag cs,none,none)else none
   |some (.ref r q m o n ag)=>match zMB st r q m o n with
    |some c=>bif zZ c then some (.val ag c,none,none)else some (.val ag (qh c),some r,none)
    |none=>none
   |some (.fad cs)=>some (.fad cs,none,none)
   |_=>none
  |_=>none
 | .lend => match x with
  | .tmp t => match lk st.s t with
   |some (.adr (.box k) [(0,0)] m 0)=>match lk st.b k with
    |some cs=>bif cs.length==m then some (.ptr cs,none,some ⟨i,true,.box k,[(0,0)],0,cs.length⟩)else none
    |none=>none
   |some (.ref r q m o n ag)=>match zMB st r q m o n with
    |some c=>some (.io ag c,none,some ⟨i,false,r,q,o,n⟩)
    |none=>none
   |_=>none
  |_=>none
def zFU(T:Nat→Option TI)(st:St):List (Mode×TypeId×Operand)→List (Option (Bool×List CV))→Nat→Option (List JX×List zn×Option YK)
 |[],_,_=>some ([],[],none)
 | (m,ty,x) :: r,ow :: ows,i => match zKE T st m ty x i ow with
  | some (p,br,ld) => match zFU T st r ows (i + 1) with
   | some (ps,brs,ld') => match ld with
    |none=>some (p::ps,br.toList++brs,ld')
    |some l=>match ld' with
     |none=>some (p::ps,br.toList++brs,some l)
     |some _=>none
   |none=>none
  |none=>none
 |_::_,[],_=>none
theorem zKG(cs:List CV):zZ (qh cs)=true:=by
 rw[qp,List.all_eq_true,QC]
 intro c hc
 obtain⟨c0,_,rfl⟩:=List.mem_map.1 hc
 exact c0.frz_flat
theorem zQm{T:Nat→Option TI}{st:St}{ty:TypeId}{v:Value}{ag:Bool}{cs:List CV}(he:evS T st ty (.const v)=some (.val ag cs)):shp ag v∧∀w Z ω p,Ze w Z ω p v.cells.toList (qh cs):=by
 simp only[evS]at he
 split at he
 ·split at he
  ·split at he
   ·split at he
    ·cases he
     refine⟨rfl,fun w Z ω p=>⟨rfl,fun j c u hc hu=>?_⟩⟩
     cases j with
     |succ j=>simp[qh]at hc
     | zero =>
      simp only[qh,CV.frz,zQ,List.getElem?_cons_zero,Option.some.injEq]at hc
      subst hc
      have:u=.slice none 0 0:=by
       have:some (Value.slice none 0 0)=some u:=hu
       exact(Option.some.inj this).symm
      subst this
      exact .nil _ _ _
    ·cases he
   ·cases he
  ·cases he
 ·cases hone:v.oneCell' with
  |false=>simp[hone]at he
  | true =>
   simp only[hone,cond_true,Option.some.injEq,SV.val.injEq]at he
   obtain⟨rfl,rfl⟩:=he
   refine⟨hone,fun w Z ω p=>⟨by rw[ZC hone];rfl,fun j c u hc hu=>?_⟩⟩
   rw[ZC hone]at hu
   cases j with
   |succ j=>simp[qh]at hc
   |zero=>
    simp only[qh,CV.frz,List.getElem?_cons_zero,Option.some.injEq]at hc hu
    subst hc;subst hu
    exact .lit _ _ hone
def zMQ(Z:JI)(ω:Own)(brs:List zn):JI:=fun b=>Z b∨∃r x,r∈brs∧ω b=some (zn.path r++x)
theorem zPX{T:Nat→Option TI}{cx st a w Z ω}(h:Rel cx st a w Z ω){g:Option YK}(hg:∀l,g.map YK.lent=some l→l.Ok ω){brs:List zn}(hbr:∀l,g=some l→l.r∉brs)
  {m:Mode} {ty:TypeId} {x:Operand} {i:Nat} {ow:Option (Bool×List CV)} {p:JX} {br:Option zn} {ld:Option YK} (hx:zKE T st m ty x i ow=some (p,br,ld)) (hbs:∀r,br=some r→r∈brs) (hl:∀l,ld=some l→g=some l)
  (how:∀ag cs,ow=some (ag,cs)→shp ag (a.eval x)∧Ze w Z ω [2,i] (a.eval x).cells.toList cs) (hroot:∀r x,r∈brs→goP (g.map YK.lent) (zn.path r++x)=none):
  ArgRel w (zMQ Z ω brs) (zEO (g.map YK.lent) ω) i (a.eval x) p:=by
 have hZ:∀b,Z b→zMQ Z ω brs b:=fun b hb=>.inl hb
 cases m with
 | own =>
  simp only[zKE]at hx
  split at hx
  ·rename_i ag cs
   cases hx
   obtain⟨k1,k2⟩:=how ag cs rfl
   refine⟨k1,k2.conv _ (fun b hb=>⟨hZ b hb,rfl⟩) fun b r hb=>⟨?_,rfl⟩⟩
   show zEO _ ω b= _
   unfold zEO
   rw[hb]
   exact zOF hg
  ·cases hx
 | rd =>
  simp only[zKE]at hx
  split at hx
  ·rename_i v
   split at hx
   ·rename_i ag cs he
    cases hx
    obtain⟨k1,k2⟩:=zQm he
    exact⟨k1,zKG cs,k2 _ _ _ _⟩
   ·cases hx
  ·rename_i t
   split at hx
   ·rename_i ag cs hlk
    cases hf:zZ cs with
    |false=>simp[hf]at hx
    |true=>
     simp only[hf,cond_true,Option.some.injEq,Prod.mk.injEq]at hx
     obtain⟨rfl,rfl,rfl⟩:=hx
     have hs:=h.hs t _ (zw hlk)
     exact⟨hs.1,hf,hs.2.flat_conv hf _ fun b hb=>⟨hZ b hb,rfl⟩⟩
   ·rename_i r q m o n ag hlk
    split at hx
    ·rename_i c hc
     obtain⟨k1,k2,k3,_⟩:=zGj h hlk hc
     cases hf:zZ c with
     |true=>
      simp only[hf,cond_true,Option.some.injEq,Prod.mk.injEq]at hx
      obtain⟨rfl,rfl,rfl⟩:=hx
      refine⟨k1,hf,k2.1,fun j c' u hcc hu=>?_⟩
      rw[qp,List.all_eq_true]at hf
      exact(k2.2 j c' u hcc hu).flat_conv (hf c' (List.mem_of_getElem? hcc)) _ fun b hb=>⟨hZ b hb,rfl⟩
     | false =>
      simp only[hf,cond_false,Option.some.injEq,Prod.mk.injEq]at hx
      obtain⟨rfl,rfl,rfl⟩:=hx
      refine⟨k1,zKG c,by rw[QC,List.length_map];exact k2.1,fun j c' u hcc hu=>?_⟩
      rw[QC,List.getElem?_map]at hcc
      cases h0:c[j]? with
      |none=>rw[h0]at hcc;cases hcc
      |some c0=>
       rw[h0]at hcc
       have:c0.frz=c':=by simpa using hcc
       subst this
       refine(k2.2 j c0 u h0 hu).freeze _ (fun b hb=>⟨hZ b hb,rfl⟩) fun b y hb=>⟨.inr ⟨r,qj q++[o+j]++y,hbs r rfl,by rw[hb];simp⟩,rfl⟩
    ·cases hx
   ·rename_i cs hlk
    cases hx
    obtain⟨A,g1,g2,g3,g4,g5⟩:=h.hs t _ (zw hlk)
    refine⟨A,g1,g2,hZ _ g3,g4,fun j c hc=>?_⟩
    obtain⟨u,k1,k2⟩:=g5 j c hc
    rw[qp,List.all_eq_true]at g4
    exact⟨u,k1,k2.flat_conv (g4 c (List.mem_of_getElem? hc)) _ fun b hb=>⟨hZ b hb,rfl⟩⟩
   ·cases hx
  ·cases hx
 | lend =>
  simp only[zKE]at hx
  split at hx
  ·rename_i t
   split at hx
   ·rename_i k m hlk
    split at hx
    ·rename_i cs hbk
     cases hlen:cs.length==m with
     |false=>simp[hlen]at hx
     | true =>
      simp only[hlen,cond_true,Option.some.injEq,Prod.mk.injEq]at hx
      obtain⟨rfl,rfl,rfl⟩:=hx
      have hgl:=hl _ rfl
      subst hgl
      obtain⟨b,e1,e2⟩:=h.hs t _ (zw hlk)
      obtain⟨u,hu⟩:=h.hb k _ (zw hbk)
      have hgo:∀b r,ω b=some ([1,k]++r)→zEO ((some (⟨i,true,.box k,[(0,0)],0,cs.length⟩:YK)).map YK.lent) ω b=some ([1,i]++r):=by
       intro b r hb
       unfold zEO
       rw[hb]
       have:=zJT (l:=⟨[1],k,1,[1],i⟩) (j:=0) (r:=r) (by show 0<1;omega)
       show goP (some ⟨[1],k,1,[1],i⟩) _= _
       simpa using this
      refine⟨b,by show a.tmps.getD t undef= _;rw[e2];simp[ZH],hgo b [0] e1,u,hu.conv _ (fun b hb=>⟨hZ b hb,rfl⟩) fun b r hb=>⟨hgo b r hb,rfl⟩⟩
    ·cases hx
   ·rename_i r q m o n ag hlk
    split at hx
    ·rename_i c hc
     simp only[Option.some.injEq,Prod.mk.injEq]at hx
     obtain⟨rfl,rfl,rfl⟩:=hx
     have hgl:=hl _ rfl
     subst hgl
     obtain⟨k1,k2,k3,_⟩:=zGj h hlk hc
     refine⟨k1,zEa.zero.1 (k2.conv (p':=[0,i]) (o':=0) (fun b hb=>⟨hZ b hb,rfl⟩) fun b j y hj hb=>⟨?_,rfl⟩)⟩
     unfold zEO
     rw[hb]
     exact zJT (l:=⟨r.path++qj q,o,n,[0,i],0⟩) (by show j<n;omega)
    ·cases hx
   ·cases hx
  ·cases hx
end Go.TL
