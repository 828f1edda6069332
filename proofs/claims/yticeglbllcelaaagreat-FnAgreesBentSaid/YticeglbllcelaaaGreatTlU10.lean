import Derived.Test.YticeglbllcelaaaGreatTlU9
set_option linter.unusedVariables false
namespace Go.TL
open Go
def Zh:List Nat→Nat
 |[]=>0
 |i::E=>Nat.lor (Zh E) (2^i)
theorem zJV(a b i:Nat):(Nat.lor a b).testBit i=(a.testBit i||b.testBit i):=Nat.testBit_or a b i
theorem zGi(E:List Nat)(i:Nat):(Zh E).testBit i=decide (i∈E):=by
 induction E with
 |nil=>simp[Zh]
 | cons j E ih =>
  rw[Zh,zJV,ih,Nat.testBit_two_pow]
  by_cases h:j=i
  ·subst h;simp
  ·have:¬i=j:=fun e=>h e.symm
   simp[h,this]
structure Tab where
 sz:Nat
 A:List Nat
 F:List Nat
 W:List Nat
def zPW(o:Oper):List Nat:=(o.after.toList.filter fun e=>Region.binds .any e).map (·.on)
theorem zJQ{o:Oper}{i:Nat} :i∈zPW o↔∃e∈o.after,Region.binds .any e=true∧e.on=i:=by
 unfold zPW
 simp only[List.mem_map,List.mem_filter,Array.mem_toList_iff]
 constructor
 ·rintro⟨e,⟨h1,h2⟩,h3⟩;exact⟨e,h1,h2,h3⟩
 ·rintro⟨e,h1,h2,h3⟩;exact⟨e,⟨h1,h2⟩,h3⟩
def wOf(W:List Nat):List Nat→Nat
 |[]=>0
 |e::L=>Nat.lor (wOf W L) (W.getD e 0)
theorem zRz(W L:List Nat)(i:Nat)(h:(wOf W L).testBit i=true):∃e∈L,(W.getD e 0).testBit i=true:=by
 induction L with
 |nil=>simp[wOf]at h
 |cons e L ih=>
  rw[wOf,zJV,Bool.or_eq_true]at h
  rcases h with h|h
  ·obtain⟨e',h1,h2⟩:=ih h;exact⟨e',List.mem_cons_of_mem _ h1,h2⟩
  ·exact⟨e,List.mem_cons_self,h⟩
def zLF(ops:Array Oper)(t:Tab)(k:Nat)(o:Oper):Bool:=
 Nat.beq (t.A.getD k 0) (Zh (zPW o))&&((zPW o).all (fun e=>Nat.blt e k)&&(Nat.beq (t.W.getD k 0) (Nat.lor (Zh (zPW o)) (wOf t.W (zPW o)))&&
 (List.range t.sz).all fun j=>(t.F.getD k 0).testBit j||(j==k||match ops[j]? with|some oj=>oj.after.any (fun e=>Region.binds .any e&&e.on==k)||o.apart ops oj|none=>true)))
def qb(ops:Array Oper)(t:Tab):Bool:=Nat.beq ops.size t.sz&&(Region.noSelect ops&&(List.range t.sz).all fun k=>match ops[k]? with|some o=>zLF ops t k o|none=>false)
theorem zGQ{ops:Array Oper}{t:Tab}(h:qb ops t=true):ops.size=t.sz:=by
 unfold qb at h;rw[Bool.and_eq_true]at h;exact Nat.eq_of_beq_eq_true h.1
theorem zMR{ops:Array Oper}{t:Tab}(h:qb ops t=true){k:Nat}{o:Oper}(ho:ops[k]? =some o):zLF ops t k o=true:=by
 have hs:=zGQ h
 unfold qb at h
 rw[Bool.and_eq_true,Bool.and_eq_true,List.all_eq_true]at h
 have:=h.2.2 k (List.mem_range.2 (by rw[←hs];exact(Array.getElem?_eq_some_iff.1 ho).1))
 rw[ho]at this
 exact this
theorem zUf{ops:Array Oper}{t:Tab}(h:qb ops t=true){k:Nat}{o:Oper}(ho:ops[k]? =some o):t.A.getD k 0=Zh (zPW o):=by
 have:=zMR h ho
 unfold zLF at this
 rw[Bool.and_eq_true]at this
 exact Nat.eq_of_beq_eq_true this.1
theorem zQK{ops:Array Oper}{t:Tab}(h:qb ops t=true){k:Nat}{o:Oper}(ho:ops[k]? =some o){e:Nat}(he:e∈zPW o):e<k:=by
 have:=zMR h ho
 unfold zLF at this
 rw[Bool.and_eq_true,Bool.and_eq_true,List.all_eq_true]at this
 exact Nat.le_of_ble_eq_true (this.2.1 e he)
theorem zTD{ops:Array Oper}{t:Tab}(h:qb ops t=true):∀(n k i:Nat),k<n→k<ops.size→(t.W.getD k 0).testBit i=true→zLH ops n k i=true
 |0,k,i,hk,_,_=>by omega
 | n + 1,k,i,hk,hks,hi => by
  have ho:ops[k]? =some ops[k]:=Array.getElem?_eq_getElem hks
  have hr:=zMR h ho
  unfold zLF at hr
  rw[Bool.and_eq_true,Bool.and_eq_true,Bool.and_eq_true]at hr
  rw[Nat.eq_of_beq_eq_true hr.2.2.1,zJV,Bool.or_eq_true]at hi
  unfold zLH
  rw[ho]
  simp only
  rw[Array.any_eq_true']
  rcases hi with hi|hi
  ·rw[zGi,decide_eq_true_eq]at hi
   obtain⟨e,h1,h2,h3⟩:=zJQ.1 hi
   exact⟨e,h1,by rw[h2,h3];simp⟩
  ·obtain⟨e',h1,h2⟩:=zRz _ _ _ hi
   have hlt:=zQK h ho h1
   obtain⟨e,g1,g2,rfl⟩:=zJQ.1 h1
   refine⟨e,g1,?_⟩
   rw[g2,zTD h n e.on i (by omega) (by omega) h2]
   simp
theorem zPE(ops:Array Oper)(E:List Nat):(lsd ops E).size=ops.size:=by
 unfold lsd
 induction E with
 |nil=>simp
 |cons j E ih=>simp only[List.foldr_cons,Array.size_setIfInBounds];exact ih
theorem zFu{ops:Array Oper}{i:Nat}(h:i<ops.size)(d:Bool):∀E:List Nat,(lsd ops E).getD i d=(Zh E).testBit i
 |[]=>by
  unfold lsd Zh
  simp[Array.getD,h]
 | j :: E => by
  have ih:=zFu h d E
  have hs:=zPE ops E
  have:lsd ops (j::E)=(lsd ops E).setIfInBounds j true:=rfl
  rw[this,Zh,zJV,Nat.testBit_two_pow,←ih]
  by_cases e:j=i
  ·subst e
   simp[Array.getD_eq_getD_getElem?,hs,h]
  ·simp[Array.getD_eq_getD_getElem?,e]
theorem zSo{ops:Array Oper}{i:Nat}(h:ops.size≤i)(d:Bool)(E:List Nat):(lsd ops E).getD i d=d:=by
 rw[Array.getD_eq_getD_getElem?,Array.getElem?_eq_none (by rw[zPE];exact h)];rfl
def zRV(a m:Nat):Bool:=Nat.beq (Nat.land a m) a
theorem zPO{a m:Nat} :zRV a m=true↔∀i,a.testBit i=true→m.testBit i=true:=by
 unfold zRV
 constructor
 ·intro h i hi
  have h:=Nat.eq_of_beq_eq_true h
  have:(Nat.land a m).testBit i=a.testBit i:=by rw[h]
  have h2:(Nat.land a m).testBit i=(a.testBit i&&m.testBit i):=Nat.testBit_and a m i
  rw[h2,hi]at this
  simpa using this
 ·intro h
  have:Nat.land a m=a:=by
   apply Nat.eq_of_testBit_eq
   intro i
   have h2:(Nat.land a m).testBit i=(a.testBit i&&m.testBit i):=Nat.testBit_and a m i
   rw[h2]
   cases hi:a.testBit i with
   |false=>rfl
   |true=>rw[h i hi];rfl
  rw[this];exact Nat.beq_refl a
theorem zJv{ops:Array Oper}{t:Tab}(ht:qb ops t=true){k:Nat}{o:Oper}(ho:ops[k]? =some o)(E:List Nat):(∀e∈o.after,Region.binds .any e=true→(lsd ops E).getD e.on false=true)↔zRV (t.A.getD k 0) (Zh E)=true:=by
 have hk:k<ops.size:=(Array.getElem?_eq_some_iff.1 ho).1
 rw[zPO,zUf ht ho]
 constructor
 ·intro h i hi
  rw[zGi,decide_eq_true_eq]at hi
  have hlt:=zQK ht ho hi
  obtain⟨e,h1,h2,rfl⟩:=zJQ.1 hi
  rw[←zFu (show e.on<ops.size by omega) false E]
  exact h e h1 h2
 ·intro h e h1 h2
  have hm:e.on∈zPW o:=zJQ.2 ⟨e,h1,h2,rfl⟩
  have hlt:=zQK ht ho hm
  rw[zFu (show e.on<ops.size by omega) false E]
  exact h _ (by rw[zGi];simpa using hm)
def okM(t:Tab)(m:Nat)(E:List Nat)(ps:List Pin)(i:Nat)(D:List Nat):Bool:=
 Nat.blt i t.sz&&(!m.testBit i&&(zRV (t.A.getD i 0) m&&(E.all (fun k=>zRV (t.A.getD k 0) m)&&(zRV (t.F.getD i 0) m&&(ps.all (fun p=> !p.D.contains i)&&D.all fun k=> !(k==i)&&(Nat.blt k t.sz&&(t.W.getD k 0).testBit i))))))
theorem zSP{ops:Array Oper}{t:Tab}(ht:qb ops t=true){E:List Nat}{ps:List Pin}{i:Nat}{D:List Nat}(h:okM t (Zh E) E ps i D=true):okE ops ps E i D=true:=by
 have hs:=zGQ ht
 unfold okM at h
 simp only[Bool.and_eq_true,Bool.not_eq_true',List.all_eq_true]at h
 obtain⟨h1,h2,h3,h4,h5,h6,h7⟩:=h
 have hi:i<ops.size:=by rw[hs];exact Nat.le_of_ble_eq_true h1
 have ho:ops[i]? =some ops[i]:=Array.getElem?_eq_getElem hi
 unfold okE
 simp only[Bool.and_eq_true]
 refine⟨⟨⟨⟨⟨?_,?_⟩,?_⟩,?_⟩,?_⟩,?_⟩
 ·unfold qb at ht
  rw[Bool.and_eq_true,Bool.and_eq_true]at ht
  exact ht.2.1
 ·unfold Region.free
  rw[ho]
  simp only[List.all_eq_true,List.mem_range]
  intro j hj
  have hr:=zMR ht ho
  unfold zLF at hr
  rw[Bool.and_eq_true,Bool.and_eq_true,Bool.and_eq_true]at hr
  have hj2:=List.all_eq_true.1 hr.2.2.2 j (List.mem_range.2 (by omega))
  rw[Bool.or_eq_true,Bool.or_eq_true]at hj2
  rcases hj2 with hj2|hj2|hj2
  ·have:=zPO.1 h5 j hj2
   rw[zFu hj true E,this]
   simp
  ·rw[hj2];rfl
  ·simp only[Bool.or_eq_true]
   right
   exact hj2
 ·rw[List.contains_iff_mem]
  refine mem_ready.2 ⟨by rw[zFu hi true E];exact h2,ops[i],ho,(zJv ht ho E).2 h3⟩
 ·unfold clB
  rw[List.all_eq_true]
  intro k hk
  have hk:k<ops.size:=List.mem_range.1 hk
  have hok:ops[k]? =some ops[k]:=Array.getElem?_eq_getElem hk
  cases hl:(lsd ops E).getD k false with
  |false=>rfl
  |true=>
   rw[zFu hk false E,zGi,decide_eq_true_eq]at hl
   rw[hok]
   simp only[Bool.not_true,Bool.false_or,Array.all_eq_true_iff_forall_mem,Bool.or_eq_true,Bool.not_eq_true']
   intro e he
   cases hb:Region.binds .any e with
   |false=>exact .inl rfl
   |true=>exact .inr ((zJv ht hok E).2 (h4 k hl) e he hb)
 ·rw[List.all_eq_true]
  intro p hp
  rw[h6 p hp];rfl
 ·rw[List.all_eq_true]
  intro k hk
  obtain⟨g1,g2,g3⟩:=h7 k hk
  rw[g1,Bool.not_false,Bool.true_and]
  have hlt:k<ops.size:=by rw[hs];exact Nat.le_of_ble_eq_true g2
  exact zTD ht _ _ _ hlt hlt g3
def zF9(sz m:Nat)(p:Pin):Bool:=p.D.all fun k=> !(Nat.blt k sz&&m.testBit k)
theorem zJU(ops:Array Oper)(E:List Nat)(p:Pin):p.live (lsd ops E)=zF9 ops.size (Zh E) p:=by
 unfold Pin.live zF9
 congr 1
 funext k
 by_cases h:k<ops.size
 ·rw[zFu h false E,show Nat.blt k ops.size=true from Nat.ble_eq_true_of_le h];rfl
 ·rw[zSo (by omega) false E]
  have:Nat.blt k ops.size=false:=by
   cases hb:Nat.blt k ops.size with
   |false=>rfl
   |true=>exact absurd (Nat.le_of_ble_eq_true hb) h
  rw[this];rfl
def zPB(sz m:Nat)(ps:List Pin)(d:Option Nat):Bool:=ps.all fun p=> !zF9 sz m p||(d != some p.x&&d != some p.d)
theorem zQP(ops:Array Oper)(E:List Nat)(ps:List Pin)(d:Option Nat):zHL ps (lsd ops E) d=zPB ops.size (Zh E) ps d:=by
 unfold zHL zPB
 congr 1
 funext p
 rw[zJU]
theorem oM{ops:Array Oper}{t:Tab}(ht:qb ops t=true){E:List Nat}{ps:List Pin}{i:Nat}{D:List Nat}(h:okM t (Zh E) E ps i D=true):okE ops ps E i D=true:=zSP ht h
theorem dM{ops:Array Oper}{t:Tab}(ht:qb ops t=true){E:List Nat}{ps:List Pin}{d:Option Nat}(h:zPB t.sz (Zh E) ps d=true):zHL ps (lsd ops E) d=true:=by rw[zQP,zGQ ht];exact h
def zSH(T:Nat→Option TI)(ops:Array Oper)(ps:List Pin)(D:List Nat)(st:St)(o:Oper):Option (List Pin×St):=match gdK ops st o.guard with
  |none=>none
  | some false => (match D with
   |[]=>(match o.dst with
    |none=>some (ps,st)
    |some d=>bif Zx st d then some (ps,st.forget (some d))else none)
   |_=>none)
  | some true => (match o.dst with
   |none=>none
   | some d => bif Zx st d then (match o.op with
    | .load t (.tmp x) => (match T t with
     |none=>none
     | some ti => (match lk st.s x with
      |some (.fad cs0)=>(match D with
       |[]=>bif (cs0.take ti.size).length==ti.size then some (ps,st.put d (.val ti.ag (cs0.take ti.size)))else none
       |_=>none)
      |_=>(match adS st (.tmp x)with
       |some s=>bif ((s.e.drop s.o).take ti.size).length==ti.size&& !s.r.eqb (.slot d)&& !(d==x)then some (⟨D,t,x,d⟩::ps,st.put d (ldV ti s ((s.e.drop s.o).take ti.size)))else none
       |none=>none)))
    | op => (match D with
     |[]=>bif zPq T st op then(match zIa T st op o.type (some d)with
      |some st'=>some (ps,st')
      |none=>none)else none
     |_=>none))else none)
theorem zQq(T:Nat→Option TI)(ops:Array Oper)(ps:List Pin)(E:List Nat)(i:Nat)(D:List Nat)(st:St):zMp T ops ps E i D st=match ops[i]? with
 |none=>none
 |some o=>bif okE ops ps E i D&&zHL ps (lsd ops E) o.dst then zSH T ops ps D st o else none:=rfl
def zQB(T:Nat→Option TI)(ops:Array Oper)(t:Tab)(ps:List Pin)(m:Nat)(E:List Nat)(i:Nat)(D:List Nat)(st:St):Option (List Pin×St):=match ops[i]? with
 |none=>none
 |some o=>bif okM t m E ps i D&&zPB t.sz m ps o.dst then zSH T ops ps D st o else none
theorem zQp{T:Nat→Option TI}{ops:Array Oper}{t:Tab}(ht:qb ops t=true){ps:List Pin}{E:List Nat}{i:Nat}{D:List Nat}{st:St}{x:List Pin×St}(h:zQB T ops t ps (Zh E) E i D st=some x):zMp T ops ps E i D st=some x:=by
 rw[zQq]
 unfold zQB at h
 cases ho:ops[i]? with
 |none=>rw[ho]at h;cases h
 | some o =>
  rw[ho]at h
  simp only at h⊢
  cases hc:(okM t (Zh E) E ps i D&&zPB t.sz (Zh E) ps o.dst)with
  |false=>rw[hc]at h;cases h
  |true=>
   rw[hc]at h
   rw[Bool.and_eq_true]at hc
   rw[zSP ht hc.1,dM ht hc.2]
   exact h
def zPM(T:Nat→Option TI)(ops:Array Oper)(t:Tab):List (Nat×List Nat)→List Pin→List Nat→Nat→St→Option (List Pin×List Nat×St)
 |[],ps,E,m,st=>some (ps,E,st)
 |(i,D)::l,ps,E,m,st=>match zQB T ops t ps m E i D st with
  |some (ps',st')=>zPM T ops t l ps' (i::E) (Nat.lor m (2^i)) st'
  |none=>none
theorem zQh{T:Nat→Option TI}{ops:Array Oper}{t:Tab}(ht:qb ops t=true):∀(l:List (Nat×List Nat)) (ps:List Pin) (E:List Nat) (st:St) (x:List Pin×List Nat×St),zPM T ops t l ps E (Zh E) st=some x→zME T ops l ps E st=some x
 |[],ps,E,st,x,h=>h
 | (i,D) :: l,ps,E,st,x,h => by
  simp only[zPM]at h
  simp only[zME]
  split at h
  ·rename_i ps' st' h1
   rw[zQp ht h1]
   exact zQh ht l ps' (i::E) st' x h
  ·cases h
def zQI(T:Nat→Option TI)(ops:Array Oper)(t:Tab)(l:List (Nat×List Nat))(ps:List Pin)(E:List Nat)(st:St):St:=match zPM T ops t l ps E (Zh E) st with
 |some x=>x.2.2
 |none=>⟨0,0,[],[]⟩
theorem mU{P:Program}{cx:Cx}{T:Nat→Option TI}(hT:TOk P T){ops:Array Oper}{t:Tab}(ht:qb ops t=true){K:St→Prop}{m:Nat}{ps:List Pin}{E:List Nat}{st:St}(l:List (Nat×List Nat))(n:Nat)(ps':List Pin)(E':List Nat)(hn:n+l.length=m)(h:(zPM T ops t l ps E (Zh E) st).map (fun x=>(x.1,x.2.1))=some (ps',E'))
  (hk:∀cx',AT P cx' ops ps' n E' (zQI T ops t l ps E st) K):AT P cx ops ps m E st K:=by
 unfold zQI at hk
 cases hc:zPM T ops t l ps E (Zh E) st with
 |none=>rw[hc]at h;cases h
 |some x=>
  obtain⟨ps1,E1,st1⟩:=x
  rw[hc]at h hk
  cases h
  exact AT.run hT l n _ _ st1 hn (zQh ht l ps E st _ hc) hk
def zIG(t:Tab)(m:Nat):List Nat:=(List.range t.sz).filter fun i=> !m.testBit i&&zRV (t.A.getD i 0) m
theorem zHz{ops:Array Oper}{t:Tab}(ht:qb ops t=true)(E:List Nat):Region.ready .any ops (lsd ops E)=zIG t (Zh E):=by
 unfold Region.ready zIG
 rw[←zGQ ht]
 refine List.filter_congr fun i hi=>?_
 have hi:i<ops.size:=List.mem_range.1 hi
 have ho:ops[i]? =some ops[i]:=Array.getElem?_eq_getElem hi
 rw[zFu hi true E,ho]
 congr 1
 rw[Bool.eq_iff_iff,←zJv ht ho E]
 simp only[Option.map_some,Option.getD_some,Array.all_eq_true_iff_forall_mem,Bool.or_eq_true,Bool.not_eq_true']
 constructor
 ·intro h e he hb
  exact(h e he).resolve_left (by rw[hb];simp)
 ·intro h e he
  cases hb:Region.binds .any e with
  |false=>exact .inl rfl
  |true=>exact .inr (h e he hb)
theorem mD{P:Program}{cx:Cx}{ops:Array Oper}{t:Tab}(ht:qb ops t=true){ps:List Pin}{n:Nat}{E:List Nat}{st:St}{K:St→Prop}(ls bs:List Nat)(st':St)(hr:zIG t (Zh E)=[])(hs:st.pick ls bs=st')(hk:K st'):AT P cx ops ps n E st K:=
 zRB ls bs st' (by rw[zHz ht];exact hr) hs hk
def zSt(st:St)(b:Bool)(p:Pin):Option SV:=bif b then lk st.s p.d else some (.tup [])
def zPn(T:Nat→Option TI)(st:St)(b:Bool)(p:Pin):Option SV:=bif b then(match T p.t with
 |none=>none
 | some i => (match lk st.s p.x with
  | some (.adr r q m o) => (match lk st.s p.d with
   |some (.ref _ _ _ _ _ _)=>bif !q.isEmpty&&(zMB st r q m o i.size).isSome then some (.ref r q m o i.size i.ag)else none
   | some (.val _ cs) => (match zFf cs with
    |some _=>(match adS st (.tmp p.x)with
     |some s=>bif ((s.e.drop s.o).take i.size).length==i.size&& !s.r.eqb (.slot p.d)&&Zx st p.d then some (.val i.ag ((s.e.drop s.o).take i.size))else none
     |none=>none)
    |none=>none)
   |_=>none)
  |_=>none))else some (.tup [])
theorem zSu(st:St)(l:Array Bool)(p:Pin):zRU st l p=zSt st (p.live l) p:=rfl
theorem zQd(T:Nat→Option TI)(st:St)(l:Array Bool)(p:Pin):zNZ T st l p=zPn T st (p.live l) p:=rfl
def zRM(ops:Array Oper)(t:Tab)(ps:List Pin)(m:Nat)(i:Nat):Bool:=match ops[i]? with
 |some o=>zPB t.sz m ps o.dst&&(match o.guard with
  |some (j,_)=>Nat.ble j i
  |none=>true)
 |none=>false
def AM1(P:Program)(cx:Cx)(T:Nat→Option TI)(ops:Array Oper)(t:Tab)(ps:List Pin)(n:Nat)(E:List Nat)(st:St)(K:St→Prop)(i:Nat):Prop:=
 zRM ops t ps (Zh E) i=true∧LAt P cx (takeA ops (i+1)) i st (fun st'=>(ps.map (fun p=>zSt st' (zF9 t.sz (Zh (i::E)) p) p)=ps.map (fun p=>zPn T st' (zF9 t.sz (Zh (i::E)) p) p)∧(ps.all fun p=>(zPn T st' (zF9 t.sz (Zh (i::E)) p) p).isSome)=true)∧AT P cx ops ps n (i::E) st' K)
theorem zK4{P:Program}{cx:Cx}{T:Nat→Option TI}{ops:Array Oper}{t:Tab}(ht:qb ops t=true){ps:List Pin}{n:Nat}{E:List Nat}{st:St}{K:St→Prop}{i:Nat}(h:AM1 P cx T ops t ps n E st K i):AT1 P cx T ops ps n E st K i:=by
 obtain⟨h1,h2⟩:=h
 refine⟨?_,?_⟩
 ·unfold zRM at h1
  unfold zSd
  rw[←zGQ ht]at h1
  simp only[←zQP]at h1
  exact h1
 ·rw[←zGQ ht]at h2
  have e1:∀st':St,(fun p=>zSt st' (zF9 ops.size (Zh (i::E)) p) p)=zRU st' (lsd ops (i::E)):=fun st'=>by funext p;rw[zSu,zJU]
  have e2:∀st':St,(fun p=>zPn T st' (zF9 ops.size (Zh (i::E)) p) p)=zNZ T st' (lsd ops (i::E)):=fun st'=>by funext p;rw[zQd,zJU]
  have e3:∀st':St,(fun p=>(zPn T st' (zF9 ops.size (Zh (i::E)) p) p).isSome)=fun p=>(zNZ T st' (lsd ops (i::E)) p).isSome:=fun st'=>by funext p;rw[zQd,zJU]
  simp only[e1,e2,e3]at h2
  exact h2
theorem mB1{P:Program}{cx:Cx}{T:Nat→Option TI}(hT:TOk P T){ops:Array Oper}{t:Tab}(ht:qb ops t=true){ps:List Pin}{n:Nat}{E:List Nat}{st:St}{K:St→Prop}(i:Nat)(hr:zIG t (Zh E)=[i])(hb:zRM ops t ps (Zh E) i=true)
  (h:LAt P cx (takeA ops (i+1)) i st (fun st'=>(ps.map (fun p=>zSt st' (zF9 t.sz (Zh (i::E)) p) p)=ps.map (fun p=>zPn T st' (zF9 t.sz (Zh (i::E)) p) p)∧(ps.all fun p=>(zPn T st' (zF9 t.sz (Zh (i::E)) p) p).isSome)=true)∧AT P cx ops ps n (i::E) st' K)):AT P cx ops ps (n+1) E st K:=by
 have:=zK4 ht ⟨hb,h⟩
 exact zRA hT i (by rw[zHz ht];exact hr) this.1 this.2
theorem mB2{P:Program}{cx:Cx}{T:Nat→Option TI}(hT:TOk P T){ops:Array Oper}{t:Tab}(ht:qb ops t=true){ps:List Pin}{n:Nat}{E:List Nat}{st:St}{K:St→Prop}(i j:Nat)(hr:zIG t (Zh E)=[i,j])(h1:AM1 P cx T ops t ps n E st K i)(h2:AM1 P cx T ops t ps n E st K j):AT P cx ops ps (n+1) E st K:=
 YJ hT i j (by rw[zHz ht];exact hr) (zK4 ht h1) (zK4 ht h2)
theorem mB3{P:Program}{cx:Cx}{T:Nat→Option TI}(hT:TOk P T){ops:Array Oper}{t:Tab}(ht:qb ops t=true){ps:List Pin}{n:Nat}{E:List Nat}{st:St}{K:St→Prop}(i j k:Nat)(hr:zIG t (Zh E)=[i,j,k])(h1:AM1 P cx T ops t ps n E st K i)(h2:AM1 P cx T ops t ps n E st K j)(h3:AM1 P cx T ops t ps n E st K k):AT P cx ops ps (n+1) E st K:=
 zMi hT i j k (by rw[zHz ht];exact hr) (zK4 ht h1) (zK4 ht h2) (zK4 ht h3)
end Go.TL
