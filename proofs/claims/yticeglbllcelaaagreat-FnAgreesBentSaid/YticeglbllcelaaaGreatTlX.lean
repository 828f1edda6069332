import Derived.Test.YticeglbllcelaaaGreatTlW
set_option linter.unusedVariables false
namespace Go.TL
def zQe:Code→List (Nat×Array Oper)
 |.region id ops _=>[(id,ops)]
 |.seq a b=>zQe a++zQe b
 |.cond _ a b=>zQe a++zQe b
 |.block _ a=>zQe a
 |.loop a=>zQe a
 |.scope a=>zQe a
 |_=>[]
def rg(fn:Func)(k:Nat):Array Oper:=match fn.body with
 |some c=>match lk (zQe c) k with
  |some ops=>ops
  |none=> #[]
 |none=> #[]
def opAt(ops:Array Oper)(i:Nat):Option (Op×Option Nat×TypeId×Option (Nat×Bool)):=match ops[i]? with
 |some o=>some (o.op,o.dst,o.type,o.guard)
 |none=>none
def LAt(P:Program)(cx:Cx)(ops:Array Oper)(i:Nat)(st:St)(K:St→Prop):Prop:=zAZ P cx ops (ops.toList.drop i) st K
theorem zOD{ops:Array Oper}{i:Nat}{o:Oper}(h:ops[i]? =some o):ops.toList.drop i=o::ops.toList.drop (i+1):=by
 have h':ops.toList[i]? =some o:=by simpa using h
 obtain⟨hl,he⟩:=List.getElem?_eq_some_iff.1 h'
 rw[List.drop_eq_getElem_cons hl,he]
theorem zHy{ops:Array Oper}{i:Nat}{op d ty g}(h:opAt ops i=some (op,d,ty,g)):∃o,ops[i]? =some o∧o.op=op∧o.dst=d∧o.type=ty∧o.guard=g:=by
 unfold opAt at h
 split at h
 ·rename_i o ho;cases h;exact⟨o,ho,rfl,rfl,rfl,rfl⟩
 ·cases h
theorem zAZ.sub{P cx ops l st st'}{K:St→Prop}(hs:st'.sub st)(h:zAZ P cx ops l st' K):zAZ P cx ops l st K:=fun a w Z ω Q hR hK=>h a w Z ω Q (hR.sub hs) hK
def zKU(T:Nat→Option TI)(ops:Array Oper)(i n:Nat)(st:St):Option St:=match runN T ops n (ops.toList.drop i) st with
 |some (_,st')=>some st'
 |none=>none
theorem zNc{T:Nat→Option TI}{ops:Array Oper} :∀(n:Nat) (l l':List Oper) (st st':St),runN T ops n l st=some (l',st')→l'=l.drop n
 |0,l,l',st,st',h=>by cases h;rfl
 |n+1,[],l',st,st',h=>by cases h;rfl
 | n + 1,o :: l,l',st,st',h => by
  simp only[runN]at h
  have fin:∀st1,runN T ops n l st1=some (l',st')→l'=(o::l).drop (n+1):=fun st1 h=>by simpa using zNc n l l' st1 st' h
  have cut:∀(d:Option Nat),(match d with|some d=>bif Zx st d then runN T ops n l (st.forget (some d))else none|none=>runN T ops n l st)=some (l',st')→l'=(o::l).drop (n+1):=by
   intro d h
   cases d with
   |none=>exact fin _ h
   |some d=>cases hok:Zx st d with
    |false=>simp[hok]at h
    |true=>simp only[hok,cond_true]at h;exact fin _ h
  split at h
  ·split at h
   ·exact fin _ h
   ·cases h
  ·split at h
   ·split at h
    ·split at h
     ·exact fin _ h
     ·cases h
    ·exact cut _ h
   ·split at h
    ·split at h
     ·exact fin _ h
     ·cases h
    ·exact cut _ h
   ·cases hN:gdN ops st _ with
    |false=>rw[hN]at h;cases h
    |true=>rw[hN]at h;exact cut _ h
theorem LAt.run{P:Program}{cx:Cx}{T:Nat→Option TI}(hT:TOk P T){ops:Array Oper}{i:Nat}{st:St}{K:St→Prop}(n:Nat)(st':St)(h:zKU T ops i n st=some st')(hk:LAt P cx ops (i+n) st' K):LAt P cx ops i st K:=by
 unfold zKU at h
 split at h
 ·rename_i l' st1 hr
  cases h
  have:=zNc n _ _ _ _ hr
  rw[List.drop_drop]at this
  unfold LAt at hk⊢
  rw[←this]at hk
  exact zAZ.runN hT n _ _ _ _ hr hk
 ·cases h
theorem Tr.at{P cx st}{id:Nat}{ops:Array Oper}{Q:Exit→St→Prop}(h:LAt P cx ops 0 st (fun st'=>Q .normal st')):Tr P cx (.region id ops false) st Q:=Tr.region h
theorem zSa{P cx st}{id:Nat}{ops:Array Oper}{c:Code}{Q:Exit→St→Prop}(h:LAt P cx ops 0 st (fun st'=>Tr P cx c st' Q)):Tr P cx (.seq (.region id ops false) c) st Q:=Tr.seq (Tr.at h)
def zRW:List Mode→List TypeId→List Operand→Option (List (Mode×TypeId×Operand))
 |[],[],[]=>some []
 |m::ms,t::ts,x::xs=>match zRW ms ts xs with
  |some l=>some ((m,t,x)::l)
  |none=>none
 |_,_,_=>none
theorem zMh:∀ {ms:List Mode} {ts:List TypeId} {xs:List Operand} {l:List (Mode×TypeId×Operand)},zRW ms ts xs=some l→xs=l.map fun x=>x.2.2
 |[],[],[],l,h=>by cases h;rfl
 | m :: ms,t :: ts,x :: xs,l,h => by
  simp only[zRW]at h
  split at h
  ·rename_i l' h'
   cases h
   simp only[List.map_cons]
   rw[←zMh h']
  ·cases h
 |[],[],_::_,l,h=>by cases h
 |[],_::_,_,l,h=>by cases h
 |_::_,[],_,l,h=>by cases h
 |_::_,_::_,[],l,h=>by cases h
def zRT(r:zn):List zn→Bool
 |[]=>false
 |x::l=>x.eqb r||zRT r l
theorem zMY{r:zn} :∀ {l:List zn},zRT r l=false→r∉l
 |[],h,hm=>by cases hm
 |x::l,h,hm=>by
  simp only[zRT,Bool.or_eq_false_iff]at h
  rcases List.mem_cons.1 hm with e|hm
  ·subst e;exact ZI h.1 rfl
  ·exact zMY h.2 hm
def zPp(T:Nat→Option TI)(ms:List Mode)(as:List Operand)(ats:List TypeId)(st:St):Option (List JX×List zn×Option YK×St):=match zRW ms ats as with
 | some xs => match zCQ T xs 0 st with
  |some (ows,st1)=>match zFU T st1 xs ows 0 with
   |some (ps,brs,ld)=>bif (match ld with|some l=>zRT l.r brs|none=>false)then none else some (ps,brs,ld,st1)
   |none=>none
  |none=>none
 |none=>none
def zM9(st1:St)(ld:Option YK)(outs:List (Nat×List CV))(d:Option Nat)(rets:List Ret):Option St:=match zCP st1 ld outs with
 |some st2=>zFv st2 d rets
 |none=>none
def gdT(ops:Array Oper)(st:St):Option (Nat×Bool)→Bool
 |none=>true
 |some (j,want)=>match gdS ops st j with
  |some true=>want
  |some false=> !want
  |none=>false
theorem LAt.call{P:Program}{cx:Cx}{T:Nat→Option TI}(hT:TOk P T){ops:Array Oper}{i:Nat}{st:St}{K:St→Prop}{f:FuncId}{av:Array Operand}{ats:Array TypeId}{d:Option Nat}{ty:TypeId}{g:Option (Nat×Bool)}
  (hop:opAt ops i=some (.call { callee:=.value (.func f),args:=av,argTypes:=ats },d,ty,g)) (hg:gdT ops st g=true) (hd:(match d with|some d=>Zx st d|none=>true)=true) (ms:List Mode) {ps:List JX} {brs:List zn} {ld:Option YK} {st1 st3:St} {rets:List Ret} {outs:List (Nat×List CV)}
  (hL:zb P f ps rets outs) (hpre:zPp T ms av.toList ats.toList st=some (ps,brs,ld,st1)) (hmine:brs=[]∨((∀r∈rets,r.mine)∧∀i out,(i,out)∈outs→z5 out)) (hpost:zM9 st1 ld outs d rets=some st3)
  (hk:LAt P cx ops (i+1) st3 K):LAt P cx ops i st K:=by
 obtain⟨o,ho,e1,e2,e3,e4⟩:=zHy hop
 unfold zPp at hpre
 split at hpre
 ·rename_i xs hxs
  split at hpre
  ·rename_i ows st1' hcons
   split at hpre
   ·rename_i ps' brs' ld' hargs
    cases hb:(match ld' with|some l=>zRT l.r brs'|none=>false)with
    |true=>rw[hb]at hpre;cases hpre
    | false =>
     rw[hb]at hpre
     simp only[cond_false,Option.some.injEq,Prod.mk.injEq]at hpre
     obtain⟨rfl,rfl,rfl,rfl⟩:=hpre
     unfold zM9 at hpost
     split at hpost
     ·rename_i st2 hback
      have hopt:OpT P cx o st (fun st'=>zAZ P cx ops (ops.toList.drop (i+1)) st' K):=
       zSq (T:=T) e1 (zMh hxs) hcons hargs (fun l hl=>by subst hl;exact zMY hb) hL hmine hback (by rw[e2];exact hpost) hk
      unfold LAt
      rw[zOD ho]
      cases hgg:g with
      |none=>exact zAZ.cons (by rw[e4,hgg]) hopt
      | some jw =>
       obtain⟨j,want⟩:=jw
       rw[hgg]at hg e4
       simp only[gdT]at hg
       split at hg
       ·rename_i hgs
        subst hg
        exact zAZ.guard e4 hgs (fun x hx=>by rw[e2]at hx;subst hx;exact qi hd) (fun _=>hopt) (fun e=>absurd rfl e)
       ·rename_i hgs
        have:want=false:=by simpa using hg
        subst this
        exact zAZ.guard e4 hgs (fun x hx=>by rw[e2]at hx;subst hx;exact qi hd) (fun _=>hopt) (fun e=>absurd rfl e)
       ·cases hg
     ·cases hpost
   ·cases hpre
  ·cases hpre
 ·cases hpre
theorem zRG{P:Program}{cx:Cx}{T:Nat→Option TI}(hT:TOk P T){ops:Array Oper}{i:Nat}{st:St}{K:St→Prop}{f:FuncId}(as:List Operand)(ats:List TypeId){op:Op}{d:Option Nat}{ty:TypeId}{g:Option (Nat×Bool)}
  (hop:opAt ops i=some (op,d,ty,g))
  (hexec0 : ∀ (o : Oper), o.op = op → ∀ (a : Act) (w : World) (Z : JI) (ω : Own), Rel cx st a w Z ω → ∀ fn : Func, P.funcs[f]? = some fn → (fn.name == "runtime.NumGoroutine") = false → fn.body.isNone = false → (execOp a.eval o).run P w = .ok (.enter f (as.toArray.map a.eval)) w) (hg : gdT ops st g = true) (hd : (match d with | some d => Zx st d | none => true) = true) (ms : List Mode) {ps : List JX} {brs : List zn} {ld : Option YK} {st1 st3 : St} {rets : List Ret} {outs : List (Nat × List CV)}
  (hL:zb P f ps rets outs) (hpre:zPp T ms as ats st=some (ps,brs,ld,st1)) (hmine:brs=[]∨((∀r∈rets,r.mine)∧∀i out,(i,out)∈outs→z5 out)) (hpost:zM9 st1 ld outs d rets=some st3)
  (hk:LAt P cx ops (i+1) st3 K):LAt P cx ops i st K:=by
 obtain⟨o,ho,e1,e2,e3,e4⟩:=zHy hop
 unfold zPp at hpre
 split at hpre
 ·rename_i xs hxs
  split at hpre
  ·rename_i ows st1' hcons
   split at hpre
   ·rename_i ps' brs' ld' hargs
    cases hb:(match ld' with|some l=>zRT l.r brs'|none=>false)with
    |true=>rw[hb]at hpre;cases hpre
    | false =>
     rw[hb]at hpre
     simp only[cond_false,Option.some.injEq,Prod.mk.injEq]at hpre
     obtain⟨rfl,rfl,rfl,rfl⟩:=hpre
     unfold zM9 at hpost
     split at hpost
     ·rename_i st2 hback
      have hopt:OpT P cx o st (fun st'=>zAZ P cx ops (ops.toList.drop (i+1)) st' K):=
       zPF (T:=T) (f:=f) (as:=as.toArray) (hexec0 o e1) (by rw[List.toList_toArray];exact zMh hxs) hcons hargs (fun l hl=>by subst hl;exact zMY hb) hL hmine hback (by rw[e2];exact hpost) hk
      unfold LAt
      rw[zOD ho]
      cases hgg:g with
      |none=>exact zAZ.cons (by rw[e4,hgg]) hopt
      | some jw =>
       obtain⟨j,want⟩:=jw
       rw[hgg]at hg e4
       simp only[gdT]at hg
       split at hg
       ·rename_i hgs
        subst hg
        exact zAZ.guard e4 hgs (fun x hx=>by rw[e2]at hx;subst hx;exact qi hd) (fun _=>hopt) (fun e=>absurd rfl e)
       ·rename_i hgs
        have:want=false:=by simpa using hg
        subst this
        exact zAZ.guard e4 hgs (fun x hx=>by rw[e2]at hx;subst hx;exact qi hd) (fun _=>hopt) (fun e=>absurd rfl e)
       ·cases hg
     ·cases hpost
   ·cases hpre
  ·cases hpre
 ·cases hpre
def callQ(T:Nat→Option TI)(ms:List Mode)(as:List Operand)(ats:List TypeId)(d:Option Nat)(rets:List Ret)(st:St):Option (List JX×St):=match zPp T ms as ats st with
 |some (ps,[],none,st1)=>match zFv st1 d rets with
  |some st3=>some (ps,st3)
  |none=>none
 |_=>none
def zFf:List CV→Option (List Value)
 |[]=>some []
 |.lit v::cs=>match zFf cs with
  |some vs=>some (v::vs)
  |none=>none
 |_::_=>none
theorem zJz{w Z ω p} :∀ {cs:List CV} {vs us:List Value},zFf cs=some vs→Ze w Z ω p us cs→us=vs:=by
 intro cs vs us h hr
 have hall:∀ {cs:List CV} {vs:List Value},zFf cs=some vs→cs=vs.map .lit:=by
  intro cs
  induction cs with
  |nil=>intro vs h;cases h;rfl
  | cons c cs ih =>
   intro vs h
   cases c with
   |lit v=>
    simp only[zFf]at h
    split at h
    ·rename_i vs' h';cases h;simp[ih h']
    ·cases h
   |sl own sz es=>cases h
   |dead=>cases h
 rw[hall h]at hr
 refine List.ext_getElem? fun j=>?_
 cases hu:us[j]? with
 |none=>
  have:us.length≤j:=List.getElem?_eq_none_iff.1 hu
  rw[hr.1,List.length_map]at this
  rw[List.getElem?_eq_none this]
 |some u=>
  have hjl:=(List.getElem?_eq_some_iff.1 hu).1
  rw[hr.1,List.length_map]at hjl
  have hc:(vs.map CV.lit)[j]? =some (.lit vs[j]):=by simp[hjl]
  have:=hr.2 j _ u hc hu
  cases this
  simp[hjl]
def zSC(st:St):Operand→Option (List Value)
 |.tmp t=>match lk st.s t with
  |some (.val true cs)=>zFf cs
  |_=>none
 |_=>none
theorem zLo{cx st a w Z ω}(h:Rel cx st a w Z ω){x:Operand}{vs:List Value}(hx:zSC st x=some vs):a.eval x=.agg vs.toArray:=by
 unfold zSC at hx
 split at hx
 ·rename_i t
  split at hx
  ·rename_i cs hl
   have hs:=h.hs t _ (zw hl)
   obtain⟨us,hu⟩:=hs.1
   have h2:=zJz hx hs.2
   show a.tmps.getD t undef= _
   rw[hu]at h2⊢
   have:us.toList=vs:=h2
   rw[←this]
  ·cases hx
 ·cases hx
theorem zTm{P:Program}{cx:Cx}{st:St}{o:Oper}{op:BinOp}{t ty:TypeId}{x y:Operand}{d:Nat}{vx vy:List Value}{b:Bool}
  (ho:o.op=.binOp op t x y ty) (hdst:o.dst=some d) (hd:Zx st d=true) (hx:zSC st x=some vx) (hy:zSC st y=some vy) (hrun:∀w,(do eqGuard op t x y (.agg vx.toArray) (.agg vy.toArray);binOp op t (.agg vx.toArray) (.agg vy.toArray):Sem Value).run P w=.ok (.bool b) w):
  zCN P cx o st (st.put d (.val false [.lit (.bool b)])):=by
 refine zGP hdst (qi hd) rfl fun a w Z ω h=>?_
 have h1:=zLo h hx
 have h2:=zLo h hy
 have h3:=hrun w
 simp only[execOp,ho,h1,h2]
 simp only[Sem.run_bind]at h3⊢
 rw[h3]
 rfl
def zSJ(T:Nat→Option TI)(rs:List ResultVar)(st:St):Option (List (Option (Bool×List CV))):=match zPb T st.n rs st.n { st with n:=st.n+rs.length } with
 |some (xs,st1)=>match zCQ T (xs.map fun x=>(Mode.own,0,x)) 0 st1 with
  |some (l,st2)=>bif st2.lo==st.lo&&Nat.ble st.lo st.n then some l else none
  |none=>none
 |none=>none
theorem Fin.of{T:Nat→Option TI}{rs:List ResultVar}{args:List JX}{st:St}(rets rets':List (Bool×List CV))(h:zSJ T rs st=some (rets'.map some))(hl:rets'.length=rs.length)(he:rets'=rets):Fin T rs args [] rets [] [] st:=by
 subst he
 unfold zSJ at h
 split at h
 ·rename_i xs st1 h1
  split at h
  ·rename_i l st2 h2
   cases hc:(st2.lo==st.lo&&Nat.ble st.lo st.n)with
   |false=>simp[hc]at h
   |true=>
    simp only[hc,cond_true,Option.some.injEq]at h
    subst h
    rw[Bool.and_eq_true]at hc
    refine⟨xs,st1,[],st2,h1,?_,hl,rfl,rfl,Nat.le_of_ble_eq_true hc.2,eq_of_beq hc.1,fun i hi=>(by cases hi),fun i out hm=>(by cases hm)⟩
    simpa using h2
  ·cases h
 ·cases h
end Go.TL
