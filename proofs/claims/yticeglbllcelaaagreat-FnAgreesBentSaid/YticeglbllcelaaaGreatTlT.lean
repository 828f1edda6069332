import Derived.Test.YticeglbllcelaaaGreatTlS
set_option linter.unusedVariables false
namespace Go.TL
def zS7(i:Nat):JX→SV
 |.val ag cs|.own ag cs|.io ag cs=>.val ag cs
 |.ptr cs=>.adr (.box i) [(0,0)] cs.length 0
 |.fad cs=>.fad cs
def zOS:Nat→List JX→List (Nat×SV)
 |_,[]=>[]
 |i,p::ps=>(i,zS7 i p)::zOS (i+1) ps
def zK9:Nat→List JX→List (Nat×List CV)
 |_,[]=>[]
 |i,p::ps=>match p with
  |.ptr cs=>(i,cs)::zK9 (i+1) ps
  |_=>zK9 (i+1) ps
def zLC(n lo:Nat)(args:List JX):St:=⟨n,lo,zOS 0 args,zK9 0 args⟩
theorem zLq:∀ {ps:List JX} {i t:Nat} {sv:SV},(t,sv)∈zOS i ps→∃k p,ps[k]? =some p∧t=i+k∧sv=zS7 t p
 |[],i,t,sv,h=>by cases h
 | p :: ps,i,t,sv,h => by
  simp only[zOS]at h
  rcases List.mem_cons.1 h with h|h
  ·cases h;exact⟨0,p,rfl,rfl,rfl⟩
  ·obtain⟨k,p',h1,h2,h3⟩:=zLq h
   exact⟨k+1,p',by simpa using h1,by omega,h3⟩
theorem zLp:∀ {ps:List JX} {i t:Nat} {cs:List CV},(t,cs)∈zK9 i ps→∃k,ps[k]? =some (.ptr cs)∧t=i+k
 |[],i,t,cs,h=>by cases h
 | p :: ps,i,t,cs,h => by
  have rec':(t,cs)∈zK9 (i+1) ps→∃k,(p::ps)[k]? =some (.ptr cs)∧t=i+k:=fun h=>by
   obtain⟨k,h1,h2⟩:=zLp h
   exact⟨k+1,by simpa using h1,by omega⟩
  cases p with
  |ptr cs'=>
   simp only[zK9]at h
   rcases List.mem_cons.1 h with h|h
   ·cases h;exact⟨0,rfl,rfl⟩
   ·exact rec' h
  |_=>exact rec' h
theorem zGd{vals:Array Value}{n t:Nat} :(vals++Array.replicate n undef).getD t undef=vals.getD t undef:=by
 simp only[Array.getD_eq_getD_getElem?,Array.getElem?_append]
 split
 ·rfl
 ·rename_i h
  rw[Array.getElem?_eq_none (by omega:vals.size≤t)]
  cases hr:(Array.replicate n undef)[t-vals.size]? with
  |none=>rfl
  |some v=>
   have:=(Array.getElem?_eq_some_iff.1 hr)
   obtain⟨h1,h2⟩:=this
   simp at h2
   simp[h2]
theorem zPQ{w:World}{Z:JI}{ω:Own}{vals:Array Value}{args:List JX}{n lo:Nat}(h:Inv ⟨w,Z,ω,vals⟩ w Z ω)(hs:vals.size=args.length)(hn:args.length≤n)
  (ha:∀(i:Nat) arg,args[i]? =some arg→∃v,vals[i]? =some v∧ArgRel w Z ω i v arg):
  Rel ⟨w,Z,ω,vals⟩ (zLC n lo args) { tmps:=vals++Array.replicate (n-vals.size) undef,defers:=[] } w Z ω:=by
 refine⟨h,by simp[zLC];omega,rfl,fun t _=>zGd,fun t sv hm=>?_,fun k cs hm=>?_⟩
 ·obtain⟨k,p,h1,h2,h3⟩:=zLq hm
  have:t=k:=by omega
  subst this;subst h3
  obtain⟨v,hv,hr⟩:=ha t p h1
  have hval:(vals++Array.replicate (n-vals.size) undef).getD t undef=v:=by rw[zGd,Array.getD_eq_getD_getElem?,hv];rfl
  simp only[hval]
  cases p with
  |val ag cs=>exact⟨hr.1,hr.2.2⟩
  |own ag cs=>exact hr
  |io ag cs=>exact hr
  |ptr cs=>
   obtain⟨b,g1,g2,g3⟩:=hr
   exact⟨b,by simpa [zn.path,spine,ZH]using g2,by simpa [ZH]using g1⟩
  |fad cs=>exact hr
 ·obtain⟨k',h1,h2⟩:=zLp hm
  have:k=k':=by omega
  subst this
  obtain⟨v,hv,hr⟩:=ha k _ h1
  obtain⟨b,g1,g2,g3⟩:=hr
  exact g3
theorem Rel.grow{cx st a w Z ω}(h:Rel cx st a w Z ω)(k:Nat):Rel cx { st with n:=st.n+k } { a with tmps:=a.tmps++Array.replicate k undef } w Z ω:=by
 have key:∀t,(a.tmps++Array.replicate k undef).getD t undef=a.tmps.getD t undef:=fun t=>zGd
 refine⟨h.inv,by simp[h.nt],h.df,fun t ht=>by simp only[key];exact h.pin t ht,fun t sv hm=>?_,h.hb⟩
 have:=h.hs t sv hm
 simp only[key]
 cases sv with
 | ref r q m o n ag =>
  refine⟨this.1,this.2.1,fun j u hu=>?_⟩
  have:=this.2.2 j u hu
  unfold CellIs at this⊢
  split at this
  ·split at this
   ·simp only[key];exact this
   ·exact this
  ·exact this
 |_=>exact this
def zPb(T:Nat→Option TI)(n:Nat):List ResultVar→Nat→St→Option (List Operand×St)
 |[],_,st=>some ([],st)
 |.tmp t::r,i,st=>bif Nat.blt t n then(match zPb T n r (i+1) st with
  |some (xs,st')=>some (.tmp t::xs,st')
  |none=>none)else none
 | .cell x ty :: r,i,st => bif Nat.blt x n then (match T ty with
  |some ti=>match adS st (.tmp x)with
   | some s => bif ((s.e.drop s.o).take ti.size).length == ti.size && !(s.r.eqb (.slot i)) then
     (match zPb T n r (i+1) (st.put i (bif zZ ((s.e.drop s.o).take ti.size)then .val ti.ag ((s.e.drop s.o).take ti.size)else .ref s.r s.q s.e.length s.o ti.size ti.ag))with
     |some (xs,st')=>some (.tmp i::xs,st')
     |none=>none)else none
   |none=>none
  |none=>none)else none
theorem zMX{P:Program}{cx:Cx}{T:Nat→Option TI}(hT:TOk P T){st:St}{t x:Nat}{d:Nat}{i:TI}{s:zO5}{cs:List CV}{a w Z ω}(h:Rel cx st a w Z ω)
  (hd:st.okD d) (ht:T t=some i) (hx:adS st (.tmp x)=some s) (hcs:(s.e.drop s.o).take i.size=cs) (hl:cs.length=i.size) (hr:s.r.eqb (.slot d)=false):
  ∃A v,a.tmps.getD x undef=.pointer (some A)∧(loadVar t A).run P w=.ok v w∧Rel cx (st.put d (bif zZ cs then .val i.ag cs else .ref s.r s.q s.e.length s.o i.size i.ag)) (a.put (some d) v) w Z ω:=by
 obtain⟨b,cur,T',us0,row,h1,h2,h3,h4,h5,h6,h7,h8⟩:=zEy h hx
 have hcell:∀(j:Nat) c,cs[j]? =some c→∃u,cur[ZH s.q*s.e.length+(s.o+j)]? =some u∧Qg w Z ω (s.r.path++qj s.q++[s.o+j]) u c:=by
  intro j c hc
  rw[←hcs,List.getElem?_take]at hc
  split at hc
  ·rw[List.getElem?_drop]at hc
   exact h8 _ c hc
  ·cases hc
 obtain⟨us,u1,u2,u3,u4⟩:=zJW hl (fun j=>cur[ZH s.q*s.e.length+(s.o+j)]?) (fun j=>s.r.path++qj s.q++[s.o+j]) hcell
 obtain⟨v,hv,hvc,hvs⟩:=zCU (hT t i ht) w b (ZH s.q*s.e.length+s.o) us u1 (fun j u hu=>by rw[zDH h3,Nat.add_assoc];exact u2 j u hu) u3
 refine⟨_,v,h1,hv,?_⟩
 refine h.put_same hd ?_
 cases hf:zZ cs with
 |true=>
  refine⟨hvs,by rw[hvc,u1,hl],fun j c u hc hu=>?_⟩
  rw[hvc]at hu
  have:=u4 j c u hc hu
  rw[qp,List.all_eq_true]at hf
  exact this.flat_conv (hf c (List.mem_of_getElem? hc)) _ fun b hb=>⟨hb,rfl⟩
 | false =>
  refine⟨hvs,?_,fun j u hu=>?_⟩
  ·rw[←Array.length_toList,hvc,u1]
  ·have hu':us[j]? =some u:=by rw[←hvc];simpa using hu
   cases hq:s.q with
   |nil=>exact absurd hq h4
   |cons y q=>
    rw[←hq]
    have:=u2 j u hu'
    unfold CellIs
    rw[hq]at h2 this⊢
    exact⟨b,cur,T',h2,h3,this⟩
def zJK(tmps:Array Value):ResultVar→Sem Value
 |.tmp t=>pure (tmps.getD t undef)
 |.cell a t=>do loadVar t (←asAddr (tmps.getD a undef))
theorem zIU{P:Program}{cx:Cx}{T:Nat→Option TI}(hT:TOk P T){n:Nat}{tm:Array Value} :∀(rs:List ResultVar) (i:Nat) (st st':St) (xs:List Operand) (a:Act) (w:World) (Z:JI) (ω:Own),
  Rel cx st a w Z ω→zPb T n rs i st=some (xs,st')→n≤i→st.lo≤n→i+rs.length≤st.n→(∀t,t<n→a.tmps.getD t undef=tm.getD t undef)→
  ∃a',Rel cx st' a' w Z ω∧st'.n=st.n∧st'.lo=st.lo∧(∀t,t<i→a'.tmps.getD t undef=a.tmps.getD t undef)∧xs.length=rs.length∧(rs.mapM (zJK tm)).run P w=.ok (xs.map a'.eval) w
 |[],i,st,st',xs,a,w,Z,ω,h,hf,h1,h2,h3,h4=>by
  simp only[zPb,Option.some.injEq,Prod.mk.injEq]at hf
  obtain⟨rfl,rfl⟩:=hf
  exact⟨a,h,rfl,rfl,fun _ _=>rfl,rfl,rfl⟩
 | .tmp t :: r,i,st,st',xs,a,w,Z,ω,h,hf,h1,h2,h3,h4 => by
  simp only[zPb]at hf
  cases htn:Nat.blt t n with
  |false=>simp[htn]at hf
  | true =>
   simp only[htn,cond_true]at hf
   have htn:t<n:=Nat.le_of_ble_eq_true htn
   split at hf
   ·rename_i xs' st1 hr
    cases hf
    obtain⟨a',g1,g2,g3,g4,g5,g6⟩:=zIU hT (tm:=tm) r (i+1) st st' xs' a w Z ω h hr (by omega) h2 (by simp at h3;omega) h4
    refine⟨a',g1,g2,g3,fun t ht=>g4 t (by omega),by simp[g5],?_⟩
    have:a'.eval (.tmp t)=tm.getD t undef:=by
     show a'.tmps.getD t undef= _
     rw[g4 t (Nat.lt_succ_of_lt (Nat.lt_of_lt_of_le htn h1)),h4 t htn]
    simp only[List.mapM_cons,List.map_cons,this,zJK,pure_bind]
    simp[g6]
   ·cases hf
 | .cell x ty :: r,i,st,st',xs,a,w,Z,ω,h,hf,h1,h2,h3,h4 => by
  simp only[zPb]at hf
  cases htn:Nat.blt x n with
  |false=>simp[htn]at hf
  | true =>
   simp only[htn,cond_true]at hf
   have htn:x<n:=Nat.le_of_ble_eq_true htn
   split at hf
   ·rename_i ti hti
    split at hf
    ·rename_i s hs
     cases hc:(((s.e.drop s.o).take ti.size).length==ti.size&& !(s.r.eqb (.slot i)))with
     |false=>simp only[hc,cond_false]at hf;cases hf
     | true =>
      simp only[hc,cond_true]at hf
      simp only[Bool.and_eq_true,beq_iff_eq,Bool.not_eq_true']at hc
      have hd:st.okD i:=⟨by omega,by simp at h3;omega⟩
      obtain⟨A,v,e1,e2,e3⟩:=zMX hT h hd hti hs rfl hc.1 hc.2
      split at hf
      ·rename_i xs' st1 hr
       cases hf
       have hput:∀t,t≠i→(a.put (some i) v).tmps.getD t undef=a.tmps.getD t undef:=fun t ht=>Zq ht
       obtain⟨a',g1,g2,g3,g4,g5,g6⟩:=zIU hT (tm:=tm) r (i+1) _ st' xs' _ w Z ω e3 hr (by omega) h2 (by simp[St.put]at h3 ⊢; omega) (fun t ht=>by rw[hput t (by omega),h4 t ht])
       refine⟨a',g1,g2,g3,fun t ht=>by rw[g4 t (by omega),hput t (by omega)],by simp[g5],?_⟩
       have hev:a'.eval (.tmp i)=v:=by
        show a'.tmps.getD i undef= _
        rw[g4 i (by omega)]
        exact Yq (by rw[h.nt];exact hd.2)
       have hA:tm.getD x undef=.pointer (some A):=by rw[←h4 x htn,e1]
       simp only[List.mapM_cons,List.map_cons,hev,zJK,hA,asAddr]
       simp[e2,g6]
      ·cases hf
    ·cases hf
   ·cases hf
end Go.TL
