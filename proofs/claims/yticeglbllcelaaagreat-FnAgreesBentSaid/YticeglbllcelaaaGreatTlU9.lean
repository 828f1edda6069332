import Derived.Test.YticeglbllcelaaaGreatTlU8
set_option linter.unusedVariables false
namespace Go.TL
open Go
def zL5(k o n:Nat):List (Nat×SV)→List (Nat×SV)
 |[]=>[]
 |(t,sv)::l=>match sv with
  |.ref r [(0,0)] m o' n' ag=>bif r.eqb (.box k)&&(Nat.ble (o'+n') o||Nat.ble (o+n) o')then(t,.ref r [(0,0)] m o' n' ag)::zL5 k o n l else zL5 k o n l
  |_=>zL5 k o n l
def St.grabT(st:St)(t:Nat):Option St:=match lk st.s t with
 | some (.ref (.box k) [(0,0)] m o n ag) => match lk st.b k with
  | some cs => bif (cs.length == m && Nat.ble (o + n) cs.length) && Zx st t then
    some (St.put { st with s:=St.modR.dropD (.box k) st.s++zL5 k o n st.s,b:=(k,zLA o n cs)::zHr (.box k) st.b } t (.val ag ((cs.drop o).take n)))
   else none
  |none=>none
 |_=>none
def zJS(o n:Nat)(cs:List CV):List CV:=cs.take o++(qh ((cs.drop o).take n)++cs.drop (o+n))
theorem zIv{o n:Nat}{cs:List CV}(h:o+n≤cs.length):(zJS o n cs).length=cs.length:=by
 simp[zJS,QC];omega
theorem zQr{o n:Nat}{cs:List CV}(h:o+n≤cs.length)(j:Nat):(zJS o n cs)[j]? =if o≤j∧j<o+n then(cs[j]?).map CV.frz else cs[j]? :=by
 unfold zJS
 by_cases h1:j<o
 ·rw[List.getElem?_append_left (by simp;omega),List.getElem?_take_of_lt h1,if_neg (by omega)]
 ·rw[List.getElem?_append_right (by simp;omega)]
  have:(cs.take o).length=o:=by simp;omega
  rw[this]
  have hl:(qh ((cs.drop o).take n)).length=n:=by rw[QC,List.length_map];simp;omega
  by_cases h2:j<o+n
  ·rw[List.getElem?_append_left (by omega),if_pos (by omega),QC,List.getElem?_map,List.getElem?_take,if_pos (by omega),List.getElem?_drop]
   congr 2
   omega
  ·rw[List.getElem?_append_right (by omega),if_neg (by omega),List.getElem?_drop,hl]
   congr 1
   omega
def St.frzP(st:St)(k o n:Nat):St:=match lk st.b k with
 |some cs=>bif Nat.ble (o+n) cs.length then { st with s:=st.s.filter fun x=>zM7 k x.2,b:=(k,zJS o n cs)::zHr (.box k) st.b } else st
 |none=>st
def zSO(k o n:Nat)(ω:Own):Own:=fun b=>match ω b with
 |some p=>(match inR [1,k,0,0] o n p with
  |some _=>none
  |none=>some p)
 |none=>none
theorem zGF{k o n:Nat}{ω:Own}{b:Nat}{p:Zu}(h:zSO k o n ω b=some p):ω b=some p∧inR [1,k,0,0] o n p=none:=by
 unfold zSO at h
 split at h
 ·rename_i q hq
  split at h
  ·cases h
  ·rename_i hn
   cases h
   exact⟨hq,hn⟩
 ·cases h
theorem zGE{k o n:Nat}{ω:Own}{b:Nat}{p:Zu}(h:ω b=some p)(hp:inR [1,k,0,0] o n p=none):zSO k o n ω b=some p:=by
 unfold zSO
 rw[h]
 simp only[hp]
theorem Rel.freezePart{cx st a w Z ω}(h:Rel cx st a w Z ω){k o n:Nat}{cs:List CV}(hl:lk st.b k=some cs)(hon:o+n≤cs.length):∃Z' ω',Rel cx { st with s:=st.s.filter fun x=>zM7 k x.2,b:=(k,zJS o n cs)::zHr (.box k) st.b } a w Z' ω':=by
 obtain⟨u,hu⟩:=h.hb k cs (zw hl)
 let Z1:JI:=fun b=>Z b∨∃p j r,ω b=some p∧inR [1,k,0,0] o n p=some (j,r)
 have inv':Inv cx w Z1 (zSO k o n ω):=
  { h.inv with
   zsub:=fun b hb=>.inl (h.inv.zsub b hb)
   zold:=fun b hb hlt h0=>by
    rcases hb with hb|⟨p,j,r,hb,_⟩
    ·exact h.inv.zold b hb hlt h0
    ·exact absurd h0 (h.inv.wold b _ hb hlt)
   wold:=fun b p hb hlt=>h.inv.wold b p (zGF hb).1 hlt
   disj:=fun b p hz hb=>by
    obtain⟨k1,k2⟩:=zGF hb
    rcases hz with hz|⟨p',j,r,hz,hz2⟩
    ·exact h.inv.disj b p hz k1
    ·rw[k1]at hz;cases hz;rw[k2]at hz2;cases hz2
   inj:=fun b b' p h1 h2=>h.inv.inj _ _ _ (zGF h1).1 (zGF h2).1
   lt:=fun b p hb=>h.inv.lt b p (zGF hb).1
   zlt:=fun b hb=>by
    rcases hb with hb|⟨p,j,r,hb,_⟩
    ·exact h.inv.zlt b hb
    ·exact h.inv.lt b _ hb }
 have hspine:inR [1,k,0,0] o n [1,k,0]=none:=qS fun j r e=>by simp at e
 refine⟨Z1,zSO k o n ω,h.step (· =.box k) ⟨fun b hb=>⟨.inl hb,rfl⟩,fun r hr b x hb=>⟨zGE hb (qS fun j s e=>?_),rfl⟩,fun _ _=>rfl⟩ inv' h.nt h.df h.pin (fun t sv hm=>?_) (fun k' cs' hm=>?_)⟩
 ·exact absurd (Zw (r:=r) (s:=.box k) (x:=x) (y:=0::0::(o+j)::s) e).1 hr
 ·obtain⟨hm,hk⟩:=List.mem_filter.1 hm
  cases sv with
  |val ag cs=>exact .inl ⟨hm,by intro e;cases e⟩
  |fad cs=>exact .inl ⟨hm,by intro e;cases e⟩
  |tup vs=>exact .inl ⟨hm,by intro e;cases e⟩
  | adr r q m o =>
   cases hr:r.eqb (.box k)with
   |false=>exact .inl ⟨hm,ZI hr,by intro e;cases e⟩
   | true =>
    simp only[zM7,hr,Bool.not_true,Bool.false_or]at hk
    split at hk
    ·rename_i hq
     obtain⟨b,e1,e2⟩:=h.hs t _ hm
     have:r=.box k:=zAj.1 hr
     subst this
     right
     exact⟨b,zGE e1 (by simpa [zn.path,spine]using hspine),e2⟩
    ·cases hk
  | ref r q m o n ag =>
   cases hr:r.eqb (.box k)with
   |false=>exact .inl ⟨hm,ZI hr,by intro e;cases e⟩
   | true =>
    simp only[zM7,hr,Bool.not_true,Bool.false_or]at hk
    split at hk
    ·rename_i hq
     obtain⟨e1,e2,e3⟩:=h.hs t _ hm
     have:r=.box k:=zAj.1 hr
     subst this
     right
     refine⟨e1,e2,fun j u hju=>?_⟩
     obtain⟨b,cur,T,f1,f2,f3⟩:=e3 j u hju
     exact⟨b,cur,T,zGE f1 (by simpa [zn.path,spine]using hspine),f2,f3⟩
    ·cases hk
 ·rcases List.mem_cons.1 hm with e|hm
  ·cases e
   right
   refine⟨u,?_⟩
   refine⟨by simp,fun j c v hc hv=>?_⟩
   cases j with
   |succ j=>simp at hc
   | zero =>
    simp only[List.getElem?_cons_zero,Option.some.injEq]at hc
    have hc: .sl true (zJS o n cs).length [zJS o n cs]=c:=hc
    subst hc
    have h0:=hu.2 0 _ v rfl hv
    rw[zIv hon]
    cases h0 with
    | own p b cap sz es us cur T hω hb hcap hm' hcs hsz hcc hr =>
     have hel:∀i j c,elC [zJS o n cs] i j=some c→i=0∧∃c0,elC [cs] 0 j=some c0∧c=(if o≤j∧j<o+n then c0.frz else c0):=by
      intro i j c hij
      obtain⟨e,g1,g2⟩:=JZ hij
      have hi:i=0:=by
       cases i with
       |zero=>rfl
       |succ i=>simp at g1
      subst hi
      simp only[List.getElem?_cons_zero,Option.some.injEq]at g1
      subst g1
      rw[zQr hon]at g2
      refine⟨rfl,?_⟩
      split at g2
      ·rename_i hj
       cases hcj:cs[j]? with
       |none=>rw[hcj]at g2;cases g2
       |some c0=>rw[hcj]at g2;exact⟨c0,by simp[elC,hcj],by simp only[Option.map_some,Option.some.injEq]at g2;rw[if_pos hj,g2]⟩
      ·rename_i hj
       exact⟨c,by simp[elC,g2],by rw[if_neg hj]⟩
     refine .own _ b cap _ [zJS o n cs] us cur T (zGE hω (by simpa using hspine)) hb hcap hm' hcs (fun e he=>?_) (fun i j c hij=>?_) (fun i j c hij=>?_)
     ·rw[List.mem_singleton]at he
      subst he
      exact zIv hon
     ·obtain⟨rfl,c0,e1,e2⟩:=hel i j c hij
      exact hcc 0 j c0 e1
     ·obtain⟨rfl,c0,e1,rfl⟩:=hel i j c hij
      split
      ·rename_i hj
       refine(hr 0 j c0 e1).freeze _ (fun b hb=>⟨.inl hb,rfl⟩) fun b r hb=>⟨?_,rfl⟩
       refine .inr ⟨_,j-o,r,hb,zBZ.2 ⟨?_,by omega⟩⟩
       simp only[List.cons_append,List.nil_append]
       rw[show o+(j-o)=j by omega]
      ·rename_i hj
       refine(hr 0 j c0 e1).conv _ (fun b hb=>⟨.inl hb,rfl⟩) fun b r hb=>⟨zGE hb (qS fun j2 r2 e=>?_),rfl⟩
       simp only[List.cons_append,List.nil_append,List.cons.injEq,true_and]at e
       omega
  ·have:=zBB hm
   exact .inl ⟨this.1,ZI this.2⟩
theorem Tr.frzP{P:Program}{cx:Cx}{c:Code}{st:St}{Q:Exit→St→Prop}(k o n:Nat)(hk:Tr P cx c (st.frzP k o n) Q):Tr P cx c st Q:=fun a w Z ω hR=>by
 unfold St.frzP at hk
 split at hk
 ·rename_i cs hl
  cases hc:Nat.ble (o+n) cs.length with
  |false=>rw[hc]at hk;exact hk a w Z ω hR
  |true=>
   rw[hc]at hk
   obtain⟨Z',ω',h1⟩:=hR.freezePart hl (Nat.le_of_ble_eq_true hc)
   exact hk a w Z' ω' h1
 ·exact hk a w Z ω hR
theorem zFi{st:St}{t m o sz:Nat}{r:zn}{q:List (Nat×Nat)}{own:Bool}{row e:List CV}{es:List (List CV)}(h1:lk st.s t=some (.ref r q m o 1 false))(hr:rowOf st r=some row)(hg:zAM row q=some e)(hm:e.length=m)(he:e[o]? =some (.sl own sz es)):slS st (.tmp t)=some ⟨r,q,o,own,sz,es⟩:=by
 have hc:(q.isEmpty||e.length==m)=true:=by rw[hm];simp
 simp only[slS,h1,hr,hg,hc,cond_true,he]
theorem zUb{α β:Type}{L:List α}{row:α→List CV}{o j sz:Nat}{v:α}{cs:List CV}{L2:List β}{row2:β→List CV}{o2 j2 sz2:Nat}{v2:β}(hc:cs[o]? =some (.sl true sz (L.map row)))(h:L[j]? =some v)
  (hc2:(row v)[o2]? =some (.sl true sz2 (L2.map row2))) (h2:L2[j2]? =some v2):zAM cs [(o,j),(o2,j2)]=some (row2 v2):=by
 have hj:(L.map row)[j]? =some (row v):=by rw[List.getElem?_map,h];rfl
 have hj2:(L2.map row2)[j2]? =some (row2 v2):=by rw[List.getElem?_map,h2];rfl
 simp only[zAM,hc,hj,hc2,hj2]
theorem zFb{α β:Type}{L:List α}{row:α→List CV}{o j sz:Nat}{v:α}{cs:List CV}{L2:List β}{row2:β→List CV}{o2 j2 sz2:Nat}{v2:β}(hc:cs[o]? =some (.sl true sz (L.map row)))(h:L[j]? =some v)
  (hc2:(row v)[o2]? =some (.sl true sz2 (L2.map row2))) (h2:L2[j2]? =some v2):zAM [.sl true cs.length [cs]] [(0,0),(o,j),(o2,j2)]=some (row2 v2):=by
 have:=zUb hc h hc2 h2
 simp only[zAM,List.getElem?_cons_zero]at this⊢
 exact this
theorem zM8{α β:Type}{L:List α}{row:α→List CV}{o j sz:Nat}{v new:α}{cs:List CV}{L2:List β}{row2:β→List CV}{o2 j2 sz2:Nat}{v2 new2:β}{f:List CV→List CV}(hc:cs[o]? =some (.sl true sz (L.map row)))(h:L[j]? =some v)
  (hc2:(row v)[o2]? =some (.sl true sz2 (L2.map row2))) (h2:L2[j2]? =some v2) (hf:f (row2 v2)=row2 new2) (hn:(row v).set o2 (.sl true sz2 ((L2.set j2 new2).map row2))=row new):
  zC1 f cs [(o,j),(o2,j2)]=cs.set o (.sl true sz ((L.set j new).map row)):=by
 have hj:(L.map row)[j]? =some (row v):=by rw[List.getElem?_map,h];rfl
 have hj2:(L2.map row2)[j2]? =some (row2 v2):=by rw[List.getElem?_map,h2];rfl
 rw[zAG hc hj,zJ0 hc2 h2 hf,hn,List.map_set]
theorem zAF{P:Program}{cx:Cx}{T:Nat→Option TI}(hT:TOk P T){ops:Array Oper}{n:Nat}{st:St}{K:St→Prop}{t ty et:TypeId}{x y:Operand}{d:Nat}{g:Option (Nat×Bool)}(ie:TI)(s:zFp)(k:IntKind)(i:Int)(j:Nat)(e:List CV)
  (hop:opAt ops n=some (.indexAddr t x y,some d,ty,g)) (hg:gdT ops st g=true) (hd:Zx st d=true) (ht:zCO T t=some et) (he:T et=some ie) (hs:(s.sz==ie.size)=true) (hy:Ql st y=some (.int k i)) (hx:slS st x=some s) (hown:s.own=true) (hr:s.r.eqb (.slot d)=false) (hi:IsE s.es i e) (hj:i.toNat=j)
  (hk:LAt P cx ops (n+1) (st.put d (.adr s.r (s.q++[(s.o,j)]) s.sz 0)) K):LAt P cx ops n st K:=by
 subst hj
 exact Yb hop hg hd (fun o ho hdst _=>zJ1 hT ho hdst (qi hd) ht he hx (eq_of_beq hs) hy hown hi hr) hk
end Go.TL
