import Derived.Test.YticeglbllcelaaaGreatTlT
set_option linter.unusedVariables false
namespace Go.TL
def zPs(nres:Nat)(ios ptrs:List Nat)(ω:Own):Own:=fun b=>match ω b with
 |some (2::k::y)=>if k<nres then some (2::k::y)else match ios[k-nres]? with
  |some i=>some (0::i::y)
  |none=>none
 |some (1::i::y)=>if i∈ptrs then some (1::i::y)else none
 |_=>none
theorem zJ5{nres:Nat}{ios ptrs:List Nat}{ω:Own}{b:Nat}{p:Zu}(h:zPs nres ios ptrs ω b=some p):
  (∃k y,ω b=some (2::k::y)∧k<nres∧p=2::k::y)∨(∃k i y,ω b=some (2::k::y)∧nres≤k∧ios[k-nres]? =some i∧p=0::i::y)∨∃i y,ω b=some (1::i::y)∧p=1::i::y:=by
 unfold zPs at h
 split at h
 ·rename_i k y hb
  split at h
  ·rename_i hk;cases h;exact .inl ⟨k,y,hb,hk,rfl⟩
  ·rename_i hk
   split at h
   ·rename_i i hi;cases h;exact .inr (.inl ⟨k,i,y,hb,by omega,hi,rfl⟩)
   ·cases h
 ·rename_i i y hb
  split at h
  ·cases h;exact .inr (.inr ⟨i,y,hb,rfl⟩)
  ·cases h
 ·cases h
theorem Inv.relF{cx:Cx}{w:World}{Z:JI}{ω:Own}(h:Inv cx w Z ω)(nres:Nat)(ios ptrs:List Nat)(hn:ios.Nodup):Inv cx w Z (zPs nres ios ptrs ω):=by
 have hsub:∀b p,TL.zPs nres ios ptrs ω b=some p→∃q,ω b=some q:=fun b p hb=>by
  rcases zJ5 hb with⟨k,y,h1,_⟩|⟨k,i,y,h1,_⟩|⟨i,y,h1,_⟩<;>exact⟨_,h1⟩
 refine { h with wold:=fun b p hb=>?_,disj:=fun b p hz hb=>?_,inj:=fun b b' p h1 h2=>?_,lt:=fun b p hb=>?_ }
 ·obtain⟨q,hq⟩:=hsub b p hb;exact h.wold b q hq
 ·obtain⟨q,hq⟩:=hsub b p hb;exact h.disj b q hz hq
 ·rcases zJ5 h1 with⟨k,y,e1,e2,e3⟩|⟨k,i,y,e1,e2,e3,e4⟩|⟨i,y,e1,e2⟩<;>rcases zJ5 h2 with⟨k',y',f1,f2,f3⟩|⟨k',i',y',f1,f2,f3,f4⟩|⟨i',y',f1,f2⟩
  ·rw[e3]at f3;cases f3;exact h.inj _ _ _ e1 f1
  ·rw[e3]at f4;cases f4
  ·rw[e3]at f2;cases f2
  ·rw[e4]at f3;cases f3
  ·rw[e4]at f4;cases f4
   have hk:k-nres=k'-nres:=by
    have g1:=List.getElem?_eq_some_iff.1 e3
    have g2:=List.getElem?_eq_some_iff.1 f3
    obtain⟨l1,g1⟩:=g1
    obtain⟨l2,g2⟩:=g2
    exact(List.getElem_inj hn).1 (g1.trans g2.symm)
   have:k=k':=by omega
   subst this
   exact h.inj _ _ _ e1 f1
  ·rw[e4]at f2;cases f2
  ·rw[e2]at f3;cases f3
  ·rw[e2]at f4;cases f4
  ·rw[e2]at f2;cases f2;exact h.inj _ _ _ e1 f1
 ·obtain⟨q,hq⟩:=hsub b p hb;exact h.lt b q hq
def zUd(st:St)(i:Nat)(out:List CV):Prop:=i<st.lo∧lk st.s i=some (.adr (.box i) [(0,0)] out.length 0)∧lk st.b i=some out
def Fin(T:Nat→Option TI)(rs:List ResultVar)(args:List JX)(ios:List Nat)(rets:List (Bool×List CV))(iout:List (List CV))(pouts:List (Nat×List CV))(st:St):Prop:=
 ∃xs st1 ags st2,zPb T st.n rs st.n { st with n:=st.n+rs.length } =some (xs,st1)∧zCQ T ((xs++ios.map Operand.tmp).map fun x=>(Mode.own,0,x)) 0 st1=some ((rets++List.zip ags iout).map some,st2)∧
  rets.length=rs.length∧ags.length=ios.length∧iout.length=ios.length∧st.lo≤st.n∧st2.lo=st.lo∧(∀i∈ios,i<st.lo∧∃ag cs,args[i]? =some (.io ag cs))∧∀i out,(i,out)∈pouts→zUd st2 i out∧∃cs,args[i]? =some (.ptr cs)
def zT3(T:Nat→Option TI)(rs:List ResultVar)(args:List JX)(ios:List Nat)(rets:List (Bool×List CV))(iout:List (List CV))(pouts:List (Nat×List CV)):Exit→St→Prop
 |.normal,st|.ret,st=>Fin T rs args ios rets iout pouts st
 |_,_=>False
theorem zKS{P:Program}{fn:Func}{tm:Array Value}{w:World}{us:List Value}(h:(fn.results.toList.mapM (zJK tm)).run P w=.ok us w):
  (results fn tm).run P w=.ok (if h:us.toArray.size=1 then us.toArray[0]else .tuple us.toArray) w:=by
 have hf:(fun x:ResultVar=>match x with|.tmp t=>(pure (tm.getD t undef):Sem Value)|.cell a t=>do loadVar t (←asAddr (tm.getD a undef)))=zJK tm:=by
  funext x;cases x<;>rfl
 have:results fn tm=(do let vs←fn.results.mapM (zJK tm);pure (if h:vs.size=1 then vs[0]else .tuple vs)):=by
  rw[←hf];rfl
 rw[this,Array.mapM_eq_mapM_toList]
 simp[h]
theorem zu {P : Program} {T : Nat → Option TI} (hT : TOk P T) {f : FuncId} {fn : Func} {c : Code} {args : List JX} (hf : P.funcs[f]? = some fn) (hname : (fn.name == "runtime.NumGoroutine") = false) (hb : fn.body = some c)
  (hn:args.length≤fn.ntmps) (lo:Nat) {rs:List ResultVar} (hrs:fn.results.toList=rs) (ios:List Nat) (hio:ios.Nodup) (rets:List (Bool×List CV)) (iout:List (List CV)) (pouts:List (Nat×List CV))
  (h:∀cx,Tr P cx c (zLC fn.ntmps lo args) (zT3 T rs args ios rets iout pouts)):zb P f args (rets.map fun x=>.val x.1 x.2) (List.zip ios iout++pouts):=by
 refine⟨⟨fn,hf,hname,by rw[hb];rfl⟩,fun w Z ω vals hI hs ha=>?_⟩
 refine calls_of_wp hf hb ?_
 refine wp_mono (h _ _ _ _ _ (zPQ (lo:=lo) hI hs hn ha)) fun e a w' ⟨st',Z',ω',hq,hR'⟩=>?_
 have key:Fin T rs args ios rets iout pouts st'→a.defers=[]∧∃v,(results fn a.tmps).run P w'=.ok v w'∧∃v' Z2 ω2,Ending.returned v=.returned v'∧Inv ⟨w,Z,ω,vals⟩ w' Z2 ω2∧zGK w' Z2 ω2 v' (rets.map fun x=>.val x.1 x.2)∧
   ∀i out,(i,out)∈List.zip ios iout++pouts→zJH w' Z2 ω2 vals args i out:=by
  rintro⟨xs,st1,ags,st2,f1,f2,f3,f3',f4,f5,f6,f7,f8⟩
  have hG:=hR'.grow rs.length
  obtain⟨a2,g1,g2,g3,g4,g5,g6⟩:=zIU hT (tm:=a.tmps) rs st'.n _ st1 xs _ w' Z' ω' hG f1 (Nat.le_refl _) f5 (Nat.le_refl _) (fun t _=>zGd)
  obtain⟨Z2,ω2,k1,_,k2,k3,k4,_⟩:=zDu (a:=a2) (w:=w') _ 0 st1 Z' ω' _ st2 g1 f2
  have hrow:∀(k:Nat) x ag cs,(xs++ios.map Operand.tmp)[k]? =some x→(rets++List.zip ags iout)[k]? =some (ag,cs)→shp ag (a2.eval x)∧Ze w' Z2 ω2 [2,k] (a2.eval x).cells.toList cs:=by
   intro k x ag cs h1 h2
   have:=k4 k .own 0 x ag cs (by rw[List.getElem?_map,h1];rfl) (by rw[List.getElem?_map,h2];rfl)
   rwa[Nat.zero_add]at this
  refine⟨hR'.df,_,zKS (by rw[hrs];exact g6),_,Z2,zPs rs.length ios (pouts.map (·.1)) ω2,rfl,k1.inv.relF _ _ _ hio,?_,fun i out hm=>?_⟩
  ·
   have hres:∀(k:Nat) ag cs,rets[k]? =some (ag,cs)→∃u,(xs.map a2.eval)[k]? =some u∧shp ag u∧Ze w' Z2 (zPs rs.length ios (pouts.map (·.1)) ω2) [2,k] u.cells.toList cs:=by
    intro k ag cs hk
    have hkl:=(List.getElem?_eq_some_iff.1 hk).1
    have hx:xs[k]? =some xs[k]:=List.getElem?_eq_getElem (by omega)
    refine⟨a2.eval xs[k],by rw[List.getElem?_map,hx];rfl,?_⟩
    obtain⟨h1,h2⟩:=hrow k xs[k] ag cs (by rw[List.getElem?_append_left (by omega)];exact hx) (by rw[List.getElem?_append_left hkl];exact hk)
    refine⟨h1,h2.conv _ (fun b hb=>⟨hb,rfl⟩) fun b r hb=>⟨?_,rfl⟩⟩
    have:k<rs.length:=by omega
    simp only[List.cons_append,List.nil_append]at hb⊢
    simp[zPs,hb,this]
   match hr:rets with
   |[]=>
    have:xs=[]:=List.eq_nil_of_length_eq_zero (by rw[g5,←f3,hr];rfl)
    subst this
    exact⟨#[],by simp,by simp,fun k ag cs h=>by simp at h⟩
   | [(ag,cs)] =>
    obtain⟨u,h1,h2,h3⟩:=hres 0 ag cs (by rw[hr];rfl)
    have hl:(xs.map a2.eval).length=1:=by rw[List.length_map,g5,←f3,hr];rfl
    match hm:xs.map a2.eval,hl with
    |[u'],_=>
     rw[hm]at h1
     cases h1
     exact⟨h2,h3⟩
   | x :: y :: r =>
    have hl:(xs.map a2.eval).length=r.length+2:=by rw[List.length_map,g5,←f3,hr];rfl
    refine⟨(xs.map a2.eval).toArray,?_,by simp only[List.size_toArray,hl];simp,fun k ag cs h=>?_⟩
    ·rw[dif_neg];simp only[List.size_toArray,hl];omega
    ·have h:(x::y::r)[k]? =some (ag,cs):=by
      have h':((x::y::r).map fun x=>Ret.val x.1 x.2)[k]? =some (.val ag cs):=h
      rw[List.getElem?_map,Option.map_eq_some_iff]at h'
      obtain⟨⟨ag',cs'⟩,e1,e2⟩:=h'
      cases e2
      exact e1
     obtain⟨u,h1,h2⟩:=hres k ag cs (by rw[hr];exact h)
     exact⟨u,by simpa using h1,h2⟩
  ·rcases List.mem_append.1 hm with hm|hm
   ·
    obtain⟨j,hj⟩:=List.mem_iff_getElem?.1 hm
    rw[List.getElem?_zip_eq_some]at hj
    obtain⟨hj1,hj2⟩:=hj
    obtain⟨e1,ag,cs,e2⟩:=f7 i (List.mem_of_getElem? hj1)
    obtain⟨v,hv,_⟩:=ha i _ e2
    have hjl:=(List.getElem?_eq_some_iff.1 hj1).1
    have hag:ags[j]? =some ags[j]:=List.getElem?_eq_getElem (by omega)
    have h1:(xs++ios.map Operand.tmp)[xs.length+j]? =some (.tmp i):=by
     rw[List.getElem?_append_right (by omega)]
     simp[hj1]
    have h2:(rets++List.zip ags iout)[xs.length+j]? =some (ags[j],out):=by
     rw[List.getElem?_append_right (by omega),List.getElem?_zip_eq_some]
     have:xs.length+j-rets.length=j:=by omega
     rw[this]
     exact⟨hag,hj2⟩
    have:=(hrow _ _ _ _ h1 h2).2
    have hev:a2.eval (.tmp i)=v:=by
     show a2.tmps.getD i undef=v
     rw[k1.pin i (by rw[f6];exact e1)]
     rw[Array.getD_eq_getD_getElem?,hv];rfl
    rw[hev]at this
    unfold zJH
    rw[e2]
    refine⟨v,hv,this.conv _ (fun b hb=>⟨hb,rfl⟩) fun b r hb=>⟨?_,rfl⟩⟩
    have g:¬xs.length+j<rs.length:=by omega
    have g':xs.length+j-rs.length=j:=by omega
    simp only[List.cons_append,List.nil_append]at hb⊢
    simp[zPs,hb,g,g',hj1]
   ·
    obtain⟨⟨e1,e2,e3⟩,cs,e4⟩:=f8 i out hm
    obtain⟨v,hv,_⟩:=ha i _ e4
    obtain⟨u,hu⟩:=k1.hb i out (zw e3)
    obtain⟨b,hb1,hb2⟩:=k1.hs i _ (zw e2)
    rw[k1.pin i (by rw[f6];rw[f6]at e1;exact e1),Array.getD_eq_getD_getElem?,hv]at hb2
    have hin:i∈pouts.map (·.1):=List.mem_map.2 ⟨(i,out),hm,rfl⟩
    unfold zJH
    rw[e4]
    refine⟨⟨u,hu.conv _ (fun b hb=>⟨hb,rfl⟩) fun b r hb=>⟨?_,rfl⟩⟩,b,?_,?_⟩
    ·simp only[List.cons_append,List.nil_append]at hb⊢
     simp only[zPs,hb,hin,if_true]
    ·rw[hv]
     simp only[Option.getD_some]at hb2
     rw[hb2]
     simp[ZH]
    ·have:ω2 b=some [1,i,0]:=by simpa [zn.path,spine,ZH]using hb1
     simp only[zPs,this,hin,if_true]
 cases e with
 |normal=>exact key hq
 |ret=>exact key hq
 |_=>exact hq.elim
end Go.TL
