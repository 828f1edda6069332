import Derived.Test.YticeglbllcelaaaGreatTlR
import Derived.Deep.LoopGhost
import Derived.Scope
set_option linter.unusedVariables false
namespace Go.TL
def zAZ(P:Program)(cx:Cx)(ops:Array Oper)(l:List Oper)(st:St)(K:St→Prop):Prop:=
 ∀a w Z ω (Q:Exit→Act→World→Prop),Rel cx st a w Z ω→(∀st' a' w' Z' ω',K st'→Rel cx st' a' w' Z' ω'→Q .normal a' w')→wpList P ops Q l a w
theorem zAZ.nil{P cx ops st}{K:St→Prop}(h:K st):zAZ P cx ops [] st K:=fun a w Z ω Q hR hK=>hK _ _ _ _ _ h hR
theorem zO1{o:Oper}(h:o.guard=none)(y:Nat→Option Bool):Region.wanted o y=true:=by
 unfold Region.wanted;rw[h]
theorem zAZ.cons{P cx ops st}{o:Oper}{l:List Oper}{K:St→Prop}(hg:o.guard=none)(h:OpT P cx o st (fun st'=>zAZ P cx ops l st' K)):zAZ P cx ops (o::l) st K:=by
 intro a w Z ω Q hR hK
 unfold wpList
 rw[zO1 hg]
 simp only[if_true]
 exact .inl (h a w Z ω _ Q hR fun st' a' w' Z' ω' h1 h2=>h1 a' w' Z' ω' Q h2 hK)
def gdS(ops:Array Oper)(st:St)(j:Nat):Option Bool:=match ops[j]? with
 | some o => match o.dst with
  |some d=>match lk st.s d with
   |some (.val false [.lit (.bool b)])=>some b
   |_=>none
  |none=>none
 |none=>none
theorem zHu{ops:Array Oper}{cx st a w Z ω}(h:Rel cx st a w Z ω){j:Nat}{b:Bool}(hb:gdS ops st j=some b):yielded ops a.tmps j=some b:=by
 unfold gdS at hb
 split at hb
 ·rename_i o ho
  split at hb
  ·rename_i d hd
   split at hb
   ·rename_i b' hl
    cases hb
    have hs:=h.hs d _ (zw hl)
    have h1:=hs.2.lit_inv
    have h2:(a.tmps.getD d undef).oneCell'=true:=hs.1
    rw[ZC h2]at h1
    have h3:a.tmps.getD d undef=.bool b:=(List.cons.inj h1.1).1
    have hd2:a.tmps[d]? =some (.bool b):=by
     rw[Array.getD_eq_getD_getElem?]at h3
     cases h4:a.tmps[d]? with
     |none=>rw[h4]at h3;cases h3
     |some v=>rw[h4]at h3;exact congrArg some h3
    unfold yielded
    simp[ho,hd,hd2]
   ·cases hb
  ·cases hb
 ·cases hb
def St.forget(st:St)(d:Option Nat):St:=match d with
 |some d=>st.put d (.tup [])
 |none=>st
theorem Rel.forget{cx st a w Z ω}(h:Rel cx st a w Z ω){d:Option Nat}(hd:∀x,d=some x→st.okD x):Rel cx (st.forget d) (a.put d undef) w Z ω:=by
 cases d with
 |none=>exact h
 |some d=>exact h.put_same (hd d rfl) ⟨#[],rfl,rfl,fun k ag cs h=>by simp at h⟩
def gdN(ops:Array Oper)(st:St)(j:Nat):Bool:=match ops[j]? with
 | some o => match o.dst with
  |some d=>match lk st.s d with
   |some (.tup [])=>true
   |_=>false
  |none=>false
 |none=>false
theorem zNQ{ops:Array Oper}{cx st a w Z ω}(h:Rel cx st a w Z ω){j:Nat}(hb:gdN ops st j=true):yielded ops a.tmps j=none:=by
 unfold gdN at hb
 split at hb
 ·rename_i o ho
  split at hb
  ·rename_i d hd
   split at hb
   ·rename_i hl
    obtain⟨us,h1,h2,_⟩:=h.hs d _ (zw hl)
    unfold yielded
    simp only[ho,hd,Option.bind_some]
    rw[Array.getD_eq_getD_getElem?]at h1
    cases h4:a.tmps[d]? with
    |none=>rfl
    |some v=>
     rw[h4]at h1
     have:v=.tuple us:=h1
     rw[this]
   ·cases hb
  ·cases hb
 ·cases hb
theorem zO3{P cx ops st}{o:Oper}{l:List Oper}{K:St→Prop}{j:Nat}{want:Bool}(hg:o.guard=some (j,want))(hb:gdN ops st j=true)(hd:∀x,o.dst=some x→st.okD x)
  (h2:zAZ P cx ops l (st.forget o.dst) K):zAZ P cx ops (o::l) st K:=by
 intro a w Z ω Q hR hK
 have hy:=zNQ hR hb
 unfold wpList
 have:Region.wanted o (yielded ops a.tmps)=false:=by unfold Region.wanted;rw[hg];simp[hy]
 rw[this]
 simp only[Bool.false_eq_true,if_false]
 exact h2 _ w Z ω Q (hR.forget hd) hK
theorem zAZ.guard{P cx ops st}{o:Oper}{l:List Oper}{K:St→Prop}{j:Nat}{want b:Bool}(hg:o.guard=some (j,want))(hb:gdS ops st j=some b)(hd:∀x,o.dst=some x→st.okD x)
  (h1:b=want→OpT P cx o st (fun st'=>zAZ P cx ops l st' K)) (h2:b≠want→zAZ P cx ops l (st.forget o.dst) K):zAZ P cx ops (o::l) st K:=by
 intro a w Z ω Q hR hK
 have hy:=zHu hR hb
 unfold wpList
 by_cases hw:b=want
 ·have:Region.wanted o (yielded ops a.tmps)=true:=by unfold Region.wanted;rw[hg];simp[hy,hw]
  rw[this]
  simp only[if_true]
  exact .inl (h1 hw a w Z ω _ Q hR fun st' a' w' Z' ω' h3 h4=>h3 a' w' Z' ω' Q h4 hK)
 ·have:Region.wanted o (yielded ops a.tmps)=false:=by unfold Region.wanted;rw[hg];simp[hy,hw]
  rw[this]
  simp only[Bool.false_eq_true,if_false]
  exact h2 hw _ w Z ω Q (hR.forget hd) hK
def Tr(P:Program)(cx:Cx)(c:Code)(st:St)(Q:Exit→St→Prop):Prop:=
 ∀a w Z ω,Rel cx st a w Z ω→c.wp P (fun e a' w'=>∃st' Z' ω',Q e st'∧Rel cx st' a' w' Z' ω') a w
theorem Tr.region{P cx st}{id:Nat}{ops:Array Oper}{Q:Exit→St→Prop}(h:zAZ P cx ops ops.toList st (fun st'=>Q .normal st')):Tr P cx (.region id ops false) st Q:=fun a w Z ω hR=>
 wp_region_list (h a w Z ω _ hR fun st' a' w' Z' ω' h1 h2=>⟨st',Z',ω',h1,h2⟩)
theorem Tr.skip{P cx st}{Q:Exit→St→Prop}(h:Q .normal st):Tr P cx .skip st Q:=fun a w Z ω hR=>wp_skip ⟨st,Z,ω,h,hR⟩
theorem Tr.exit{P cx st}{id:Nat}{Q:Exit→St→Prop}(h:Q (.exit id) st):Tr P cx (.exit id) st Q:=fun a w Z ω hR=>wp_exit ⟨st,Z,ω,h,hR⟩
theorem Tr.ret{P cx st}{Q:Exit→St→Prop}(h:Q .ret st):Tr P cx .ret st Q:=fun a w Z ω hR=>wp_ret ⟨st,Z,ω,h,hR⟩
def zTC(N:St→Prop)(Q:Exit→St→Prop):Exit→St→Prop
 |.normal,st=>N st
 |e,st=>Q e st
theorem Tr.seq{P cx st}{x y:Code}{Q:Exit→St→Prop}(h:Tr P cx x st (zTC (fun st'=>Tr P cx y st' Q) Q)):Tr P cx (.seq x y) st Q:=fun a w Z ω hR=>by
 refine wp_seq (wp_mono (h a w Z ω hR) fun e a w ⟨st',Z',ω',h1,h2⟩=>?_)
 cases e with
 |normal=>exact h1 a w Z' ω' h2
 |_=>exact⟨st',Z',ω',h1,h2⟩
theorem Tr.cond{P cx st}{c:Operand}{x y:Code}{b:Bool}{Q:Exit→St→Prop}(hc:Ql st c=some (.bool b))(h1:b=true→Tr P cx x st Q)(h2:b=false→Tr P cx y st Q):Tr P cx (.cond c x y) st Q:=fun a w Z ω hR=>by
 have:=(qY hR hc).1
 exact wp_cond_split this (fun h=>h1 h a w Z ω hR) (fun h=>h2 h a w Z ω hR)
def zSF(id:Nat)(Q:Exit→St→Prop):Exit→St→Prop
 |.exit id',st=>(id'=id→Q .normal st)∧(id'≠id→Q (.exit id') st)
 |e,st=>Q e st
theorem Tr.block{P cx st}{id:Nat}{c:Code}{Q:Exit→St→Prop}(h:Tr P cx c st (zSF id Q)):Tr P cx (.block id c) st Q:=fun a w Z ω hR=>by
 refine wp_block (wp_mono (h a w Z ω hR) fun e a w ⟨st',Z',ω',h1,h2⟩=>?_)
 cases e with
 |exit id'=>
  simp only[Exit.inBlock]
  by_cases he:id'=id
  ·rw[if_pos he];exact⟨st',Z',ω',h1.1 he,h2⟩
  ·rw[if_neg he];exact⟨st',Z',ω',h1.2 he,h2⟩
 |_=>exact⟨st',Z',ω',h1,h2⟩
def St.sub(st' st:St):Prop:=st'.n=st.n∧st'.lo=st.lo∧(∀t sv,(t,sv)∈st'.s→(t,sv)∈st.s)∧(∀k cs,(k,cs)∈st'.b→(k,cs)∈st.b)
theorem Rel.sub{cx st st' a w Z ω}(h:Rel cx st a w Z ω)(hs:st'.sub st):Rel cx st' a w Z ω:=
 ⟨h.inv,by rw[hs.1];exact h.nt,h.df,fun t ht=>h.pin t (by rw[←hs.2.1];exact ht),fun t sv hm=>h.hs t sv (hs.2.2.1 t sv hm),fun k cs hm=>h.hb k cs (hs.2.2.2 k cs hm)⟩
theorem Tr.loop{P cx st}{c:Code}{Q:Exit→St→Prop}{ι:Type}(S:ι→St)(I:ι→Prop)(μ:ι→Nat)(i0:ι)(h0:I i0)(hs:(S i0).sub st)
  (h:∀i,I i→Tr P cx c (S i) (zTC (fun st'=>∃j,I j∧μ j<μ i∧(S j).sub st') Q)):Tr P cx (.loop c) st Q:=fun a w Z ω hR=>by
 refine wp_loop_ghost (fun n a w=>∃i Z ω,I i∧μ i=n∧Rel cx (S i) a w Z ω) (μ i0) ⟨i0,Z,ω,h0,rfl,hR.sub hs⟩ fun n a w hI=>?_
 obtain⟨i,Z,ω,h1,h2,h3⟩:=hI
 subst h2
 refine wp_mono (h i h1 a w Z ω h3) fun e a' w' ⟨st',Z',ω',hq,hR'⟩=>?_
 cases e with
 |normal=>
  obtain⟨j,j1,j2,j3⟩:=hq
  exact⟨μ j,j2,j,Z',ω',j1,rfl,hR'.sub j3⟩
 |_=>exact⟨st',Z',ω',hq,hR'⟩
end Go.TL
