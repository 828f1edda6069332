import Derived.Test.YticeglbllcelaaaGreatTlB
namespace Go.TL
inductive zn where
 |slot (t:Nat)
 |box (k:Nat)
def zn.path:zn→Zu
 |.slot t=>[0,t]
 |.box k=>[1,k]
def zn.eqb:zn→zn→Bool
 |.slot t,.slot u=>t==u
 |.box t,.box u=>t==u
 |_,_=>false
theorem zAj{r s:zn} :r.eqb s=true↔r=s:=by
 cases r<;>cases s<;>simp[zn.eqb]
theorem ZI{r s:zn}(h:r.eqb s=false):r≠s:=fun e=>by rw[zAj.2 e]at h;cases h
theorem Zw{r s:zn}{x y:Zu}(h:r.path++x=s.path++y):r=s∧x=y:=by
 cases r<;>cases s<;>simp_all [zn.path]
inductive SV where
 |val (ag:Bool) (cs:List CV)
 |ref (r:zn) (q:List (Nat×Nat)) (m o n:Nat) (ag:Bool)
 |adr (r:zn) (q:List (Nat×Nat)) (m o:Nat)
 |fad (cs:List CV)
 |tup (vs:List (Bool×List CV))
structure St where
 n:Nat
 lo:Nat
 s:List (Nat×SV)
 b:List (Nat×List CV)
def shp(ag:Bool)(v:Value):Prop:=match ag with
 |true=>∃cs,v=.agg cs
 |false=>v.oneCell'=true
theorem cells_one{v:Value}(h:v.oneCell'=true):v.cells= #[v]:=by cases v<;>first|rfl|cases h
def CellIs(w:World)(tm:Array Value)(ω:Own)(r:zn)(q:List (Nat×Nat))(m j:Nat)(u:Value):Prop:=
 match q with
 |[]=>match r with
  |.slot t=>(tm.getD t undef).cells[j]? =some u
  |.box _=>False
 |q=>∃b cur T,ω b=some (r.path++spine q)∧w.heap[b]? =some (.cells cur T (0,0))∧cur[ZH q*m+j]? =some u
def zMl(w:World)(Z:JI)(ω:Own)(tm:Array Value)(t:Nat)(v:Value):SV→Prop
 |.val ag cs=>shp ag v∧Ze w Z ω [0,t] v.cells.toList cs
 |.ref r q m o n ag=>shp ag v∧v.cells.size=n∧∀j u,v.cells[j]? =some u→CellIs w tm ω r q m (o+j) u
 |.adr r q m o=>∃b,ω b=some (r.path++spine q)∧v=.pointer (some ⟨b,ZH q*m+o,none⟩)
 |.fad cs=>∃A:Addr,A.spot=none∧v=.pointer (some A)∧Z A.block∧zZ cs=true∧∀(j:Nat) c,cs[j]? =some c→∃u,w.cell? ⟨A.block,A.off+j,none⟩=some u∧Qg w Z ω [] u c
 |.tup vs=>∃us:Array Value,v=.tuple us∧us.size=vs.length∧∀(k:Nat) ag cs,vs[k]? =some (ag,cs)→∃u,us[k]? =some u∧shp ag u∧Ze w Z ω [0,t,k] u.cells.toList cs
structure Cx where
 w0:World
 Z0:JI
 ω0:Own
 vals:Array Value
structure Inv (cx:Cx) (w:World) (Z:JI) (ω:Own):Prop where
 os:w.os=cx.w0.os
 tape:w.tape=cx.w0.tape
 output:w.output=cx.w0.output
 size:cx.w0.heap.size≤w.heap.size
 keep:∀b,b<cx.w0.heap.size→cx.ω0 b=none→w.heap[b]? =cx.w0.heap[b]?
 zsub:∀b,cx.Z0 b→Z b
 zold:∀b,Z b→b<cx.w0.heap.size→cx.ω0 b=none→cx.Z0 b
 wold:∀b p,ω b=some p→b<cx.w0.heap.size→cx.ω0 b≠none
 disj:∀b p,Z b→ω b≠some p
 inj:∀b b' p,ω b=some p→ω b'=some p→b=b'
 lt:∀b p,ω b=some p→b<w.heap.size
 zlt:∀b,Z b→b<w.heap.size
structure Rel (cx:Cx) (st:St) (a:Act) (w:World) (Z:JI) (ω:Own):Prop where
 inv:Inv cx w Z ω
 nt:a.tmps.size=st.n
 df:a.defers=[]
 pin:∀t,t<st.lo→a.tmps.getD t undef=cx.vals.getD t undef
 hs:∀t sv,(t,sv)∈st.s→zMl w Z ω a.tmps t (a.tmps.getD t undef) sv
 hb:∀k cs,(k,cs)∈st.b→∃u,Ze w Z ω [1,k] [u] [.sl true cs.length [cs]]
def SV.hangs(t:Nat)(r:zn):SV→Bool
 |.val _ _|.tup _|.fad _=>zn.eqb (.slot t) r
 |.ref r' _ _ _ _ _|.adr r' _ _ _=>r'.eqb r||zn.eqb (.slot t) r
def zEQ(r:zn):List (Nat×SV)→List (Nat×SV)
 |[]=>[]
 |(t,sv)::l=>bif sv.hangs t r then zEQ r l else(t,sv)::zEQ r l
def zHr(r:zn):List (Nat×List CV)→List (Nat×List CV)
 |[]=>[]
 |(k,cs)::l=>bif zn.eqb (.box k) r then zHr r l else(k,cs)::zHr r l
def zHs(r:zn):List (Nat×SV)→List (Nat×SV)
 |[]=>[]
 |(t,sv)::l=>match sv with
  |.ref r' q m o n ag=>bif r'.eqb r then zHs r l else(t,.ref r' q m o n ag)::zHs r l
  |sv=>(t,sv)::zHs r l
theorem QS{r:zn}{t:Nat}{sv:SV} :∀ {l:List (Nat×SV)},(t,sv)∈zEQ r l→(t,sv)∈l∧sv.hangs t r=false
 |[],h=>by cases h
 | (t',sv') :: l,h => by
  simp only[zEQ]at h
  cases hh:sv'.hangs t' r with
  |true=>
   simp only[hh,cond_true]at h
   exact⟨List.mem_cons_of_mem _ (QS h).1,(QS h).2⟩
  | false =>
   simp only[hh,cond_false]at h
   rcases List.mem_cons.1 h with h|h
   ·cases h
    exact⟨List.mem_cons_self,hh⟩
   ·exact⟨List.mem_cons_of_mem _ (QS h).1,(QS h).2⟩
theorem zBB{r:zn}{t:Nat}{sv:List CV} :∀ {l:List (Nat×List CV)},(t,sv)∈zHr r l→(t,sv)∈l∧zn.eqb (.box t) r=false
 |[],h=>by cases h
 | (t',sv') :: l,h => by
  simp only[zHr]at h
  cases hh:zn.eqb (.box t') r with
  |true=>
   simp only[hh,cond_true]at h
   exact⟨List.mem_cons_of_mem _ (zBB h).1,(zBB h).2⟩
  | false =>
   simp only[hh,cond_false]at h
   rcases List.mem_cons.1 h with h|h
   ·cases h
    exact⟨List.mem_cons_self,hh⟩
   ·exact⟨List.mem_cons_of_mem _ (zBB h).1,(zBB h).2⟩
def SV.apart(t:Nat)(T:zn→Prop):SV→Prop
 |.val _ _|.tup _|.fad _=>¬T (.slot t)
 |.ref r _ _ _ _ _|.adr r _ _ _=>¬T r∧¬T (.slot t)
theorem QQ{t:Nat}{r:zn}{sv:SV}(h:sv.hangs t r=false):sv.apart t (· =r):=by
 cases sv<;>simp only[SV.hangs,Bool.or_eq_false_iff]at h<;>simp only[SV.apart]
 case ref=>exact⟨ZI h.1,ZI h.2⟩
 case adr=>exact⟨ZI h.1,ZI h.2⟩
 all_goals exact ZI h
structure Same (T:zn→Prop) (w w':World) (Z Z':JI) (ω ω':Own) (tm tm':Array Value):Prop where
 z:∀b,Z b→Z' b∧w'.heap[b]? =w.heap[b]?
 o:∀r,¬T r→∀b x,ω b=some (r.path++x)→ω' b=some (r.path++x)∧w'.heap[b]? =w.heap[b]?
 t:∀t,¬T (.slot t)→tm'.getD t undef=tm.getD t undef
theorem zMl.keep{T:zn→Prop}{w w':World}{Z Z':JI}{ω ω':Own}{tm tm':Array Value}(h:Same T w w' Z Z' ω ω' tm tm'){t:Nat}{v:Value}{sv:SV}(ha:sv.apart t T)
  (hs:zMl w Z ω tm t v sv):zMl w' Z' ω' tm' t v sv:=by
 cases sv with
 |val ag cs=>
  refine⟨hs.1,hs.2.conv _ h.z fun b r hb=>?_⟩
  exact h.o (.slot t) ha b r hb
 | ref r q m o n ag =>
  obtain⟨h1,h2,h3⟩:=hs
  refine⟨h1,h2,fun j u hu=>?_⟩
  have:=h3 j u hu
  cases q with
  | nil =>
   cases r with
   |slot t0=>
    simp only[CellIs]at this⊢
    rw[h.t t0 ha.1]
    exact this
   |box k=>exact this
  |cons y q=>
   obtain⟨b,cur,T',k1,k2,k3⟩:=this
   have:=h.o r ha.1 b _ k1
   exact⟨b,cur,T',this.1,this.2.trans k2,k3⟩
 |adr r q m o=>
  obtain⟨b,k1,k2⟩:=hs
  exact⟨b,(h.o r ha.1 b _ k1).1,k2⟩
 | fad cs =>
  obtain⟨A,k1,k2,k3,k4,k5⟩:=hs
  refine⟨A,k1,k2,(h.z _ k3).1,k4,fun j c hc=>?_⟩
  obtain⟨u,g1,g2⟩:=k5 j c hc
  refine⟨u,?_,?_⟩
  ·rw[←g1];exact World.cell?_of_block (h.z _ k3).2
  ·rw[qp,List.all_eq_true]at k4
   exact g2.flat_conv (k4 c (List.mem_of_getElem? hc)) _ h.z
 |tup vs=>
  obtain⟨us,k1,k2,k3⟩:=hs
  refine⟨us,k1,k2,fun k ag cs hk=>?_⟩
  obtain⟨u,g1,g2,g3⟩:=k3 k ag cs hk
  refine⟨u,g1,g2,g3.conv _ h.z fun b r hb=>?_⟩
  have:=h.o (.slot t) ha b ([k]++r) (by rw[hb];rfl)
  exact⟨this.1,this.2⟩
theorem Rel.step{cx:Cx}{st st':St}{a a':Act}{w w':World}{Z Z':JI}{ω ω':Own}(h:Rel cx st a w Z ω)(T:zn→Prop)(hS:Same T w w' Z Z' ω ω' a.tmps a'.tmps)
  (inv:Inv cx w' Z' ω') (nt:a'.tmps.size=st'.n) (df:a'.defers=[]) (pin:∀t,t<st'.lo→a'.tmps.getD t undef=cx.vals.getD t undef)
  (hs:∀t sv,(t,sv)∈st'.s→((t,sv)∈st.s∧sv.apart t T)∨zMl w' Z' ω' a'.tmps t (a'.tmps.getD t undef) sv)
  (hb:∀k cs,(k,cs)∈st'.b→((k,cs)∈st.b∧¬T (.box k))∨∃u,Ze w' Z' ω' [1,k] [u] [.sl true cs.length [cs]]):Rel cx st' a' w' Z' ω':=by
 refine⟨inv,nt,df,pin,fun t sv hm=>?_,fun k cs hm=>?_⟩
 ·rcases hs t sv hm with⟨hm,ha⟩|hn
  ·have:=(h.hs t sv hm).keep hS ha
   have ht:¬T (.slot t):=by cases sv<;>first|exact ha|exact ha.2
   rw[hS.t t ht]
   exact this
  ·exact hn
 ·rcases hb k cs hm with⟨hm,ha⟩|hn
  ·obtain⟨u,hu⟩:=h.hb k cs hm
   exact⟨u,hu.conv _ hS.z fun b r hb=>hS.o (.box k) ha b r hb⟩
  ·exact hn
def lk{α:Type} :List (Nat×α)→Nat→Option α
 |[],_=>none
 |(k,x)::l,t=>bif k==t then some x else lk l t
theorem zw{α:Type}{t:Nat}{x:α} :∀ {l:List (Nat×α)},lk l t=some x→(t,x)∈l
 |[],h=>by cases h
 | (k,y) :: l,h => by
  simp only[lk]at h
  cases hk:k==t with
  |true=>
   simp only[hk,cond_true,Option.some.injEq]at h
   have:k=t:=by simpa using hk
   subst this;subst h
   exact List.mem_cons_self
  |false=>
   simp only[hk,cond_false]at h
   exact List.mem_cons_of_mem _ (zw h)
def rowOf(st:St):zn→Option (List CV)
 |.slot t=>match lk st.s t with
  |some (.val _ cs)=>some cs
  |_=>none
 |.box k=>match lk st.b k with
  |some cs=>some [.sl true cs.length [cs]]
  |none=>none
theorem Rel.row{cx st a w Z ω}(h:Rel cx st a w Z ω){r:zn}{row:List CV}(hr:rowOf st r=some row):
  ∃us,Ze w Z ω r.path us row∧∀t,r=.slot t→us=(a.tmps.getD t undef).cells.toList:=by
 cases r with
 | slot t =>
  simp only[rowOf]at hr
  split at hr
  ·rename_i ag cs hl
   cases hr
   have:=h.hs t _ (zw hl)
   exact⟨_,this.2,fun t' e=>by cases e;rfl⟩
  ·cases hr
 | box k =>
  simp only[rowOf]at hr
  split at hr
  ·rename_i cs hl
   cases hr
   obtain⟨u,hu⟩:=h.hb k cs (zw hl)
   exact⟨[u],hu,fun t e=>by cases e⟩
  ·cases hr
theorem Yq{a:Act}{d:Nat}{v:Value}(h:d<a.tmps.size):(a.put (some d) v).tmps.getD d undef=v:=by
 simp[Act.put,Array.getD,h]
theorem Zq{a:Act}{d t:Nat}{v:Value}(h:t≠d):(a.put (some d) v).tmps.getD t undef=a.tmps.getD t undef:=by
 simp only[Act.put,Array.getD_eq_getD_getElem?,Array.getElem?_setIfInBounds]
 rw[if_neg (Ne.symm h)]
theorem size_put{a:Act}{d:Option Nat}{v:Value} :(a.put d v).tmps.size=a.tmps.size:=by
 cases d<;>simp[Act.put]
theorem zE3{a:Act}{d:Option Nat}{v:Value} :(a.put d v).defers=a.defers:=by
 cases d<;>rfl
def St.okD(st:St)(d:Nat):Prop:=st.lo≤d∧d<st.n
def St.put(st:St)(d:Nat)(sv:SV):St:= { st with s:=(d,sv)::zEQ (.slot d) st.s }
theorem Rel.put{cx st a w Z ω}(h:Rel cx st a w Z ω){d:Nat}{v:Value}{sv:SV}{w':World}{Z':JI}{ω':Own}(hd:st.okD d)(inv:Inv cx w' Z' ω')
  (hz:∀b,Z b→Z' b∧w'.heap[b]? =w.heap[b]?) (ho:∀r,r≠zn.slot d→∀b x,ω b=some (r.path++x)→ω' b=some (r.path++x)∧w'.heap[b]? =w.heap[b]?)
  (hv:zMl w' Z' ω' (a.put (some d) v).tmps d v sv):Rel cx (st.put d sv) (a.put (some d) v) w' Z' ω':=by
 have hd':d<a.tmps.size:=by rw[h.nt];exact hd.2
 refine h.step (· =.slot d) ⟨hz,ho,fun t ht=>Zq (fun e=>ht (by rw[e]))⟩ inv (by rw[size_put];exact h.nt) (by rw[zE3];exact h.df) (fun t ht=>by rw[Zq (by have h1:=hd.1;have h0:t<st.lo:=ht;omega)];exact h.pin t ht) (fun t sv' hm=>?_) (fun k cs hm=>?_)
 ·rcases List.mem_cons.1 hm with e|hm
  ·cases e
   right
   rw[Yq hd']
   exact hv
  ·left
   have:=QS hm
   exact⟨this.1,QQ this.2⟩
 ·exact .inl ⟨hm,fun e=>by cases e⟩
end Go.TL
