import Derived.Test.YticeglbllcelaaaGreatTlC
set_option linter.unusedVariables false
namespace Go.TL
inductive TK where
 |int (k:IntKind)
 |bool
 |str
 |sl (e:TypeId)
 |st (fs:List (Nat×Nat×TypeId))
 |ptr (e:TypeId)
structure TI where
 k:TK
 size:Nat
 bytes:Nat
 zero:List CV
def TI.ag(i:TI):Bool:=match i.k with
 |.st _=>true
 |_=>false
def zOk:List Value→List CV→Prop
 |[],[]=>True
 |v::vs,.lit u::cs=>v=u∧v.oneCell'=true∧zOk vs cs
 |.slice none 0 0::vs,.sl true _ []::cs=>zOk vs cs
 |_,_=>False
theorem zOk.rep{w:World}{Z:JI}{ω:Own} :∀ {vs:List Value} {cs:List CV},zOk vs cs→vs.length=cs.length∧∀(j:Nat) c u,cs[j]? =some c→vs[j]? =some u→∀p,Qg w Z ω p u c:=by
 intro vs
 induction vs with
 |nil=>
  intro cs h
  cases cs with
  |nil=>exact⟨rfl,fun j c u hc=>by simp at hc⟩
  |cons c cs=>simp[zOk]at h
 | cons v vs ih =>
  intro cs h
  cases cs with
  |nil=>simp[zOk]at h
  | cons c cs =>
   have key:zOk vs cs∧∀p,Qg w Z ω p v c:=by
    cases c with
    |lit u=>
     have h':v=u∧v.oneCell'=true∧zOk vs cs:=by simpa [zOk]using h
     obtain⟨rfl,h1,h2⟩:=h'
     exact⟨h2,fun p=>.lit p v h1⟩
    |dead=>simp[zOk]at h
    | sl own sz es =>
     unfold zOk at h
     split at h
     ·rename_i heq;cases heq
     ·rename_i heq;cases heq
     ·rename_i h1 h2
      cases h1;cases h2
      exact⟨h,fun p=>.nil p true sz⟩
     ·exact h.elim
   obtain⟨i1,i2⟩:=ih key.1
   refine⟨by simp[i1],fun j c' u hc hu=>?_⟩
   cases j with
   |zero=>
    simp only[List.getElem?_cons_zero,Option.some.injEq]at hc hu
    subst hc;subst hu
    exact key.2
   |succ j=>
    simp only[List.getElem?_cons_succ]at hc hu
    exact i2 j c' u hc hu
def TI.Ok(P:Program)(t:TypeId)(i:TI):Prop:=
 ∃info,P.info? t=some info∧info.size=i.size∧info.bytes=i.bytes∧(∃z,info.zero=some z∧zOk z.cells.toList i.zero∧shp i.ag z∧i.zero.length=i.size)∧(i.ag=false→i.size=1)∧
  match i.k with
  |.int k=>P.underlying t=some (.int k)
  |.bool=>P.underlying t=some .bool
  |.str=>P.underlying t=some .string
  |.sl e=>P.underlying t=some (.slice e)
  |.ptr e=>P.underlying t=some (.pointer e)
  | .st fs => ∃ fields,P.underlying t = some (.struct fields) ∧ fields.size = fs.length ∧
    ∀(j:Nat) o s ft,fs[j]? =some (o,s,ft)→∃f fi,fields[j]? =some f∧f.offset=o∧P.info? f.type=some fi∧fi.size=s
def TOk(P:Program)(T:Nat→Option TI):Prop:=∀t i,T t=some i→i.Ok P t
theorem TI.Ok.isAgg{P:Program}{t:TypeId}{i:TI}(h:i.Ok P t)(w:World):(isAgg t).run P w=.ok i.ag w:=by
 obtain⟨info,_,_,_,_,_,h⟩:=h
 unfold Go.isAgg TI.ag
 split at h<;>first
  |(rename_i hk;simp[run_underlying h,hk];done)
  |(rename_i hk;obtain⟨fields,h,_⟩:=h;simp[run_underlying h,hk])
theorem TI.Ok.sizeOf{P:Program}{t:TypeId}{i:TI}(h:i.Ok P t)(w:World):(Go.sizeOf t).run P w=.ok i.size w:=by
 obtain⟨info,h1,h2,_⟩:=h
 simp[Go.sizeOf,typeInfo,h1,h2]
theorem add_lit(b o n:Nat):(⟨b,o,none⟩:Addr).add n=⟨b,o+n,none⟩:=by
 unfold Addr.add
 split
 ·rename_i h;subst h;rfl
 ·rfl
theorem ZC{v:Value}(h:v.oneCell'=true):v.cells.toList=[v]:=by rw[cells_one h]
theorem zCU{P:Program}{t:TypeId}{i:TI}(h:i.Ok P t)(w:World)(b o:Nat)(us:List Value)(hl:us.length=i.size)(hc:∀(j:Nat) u,us[j]? =some u→w.cell? ⟨b,o+j,none⟩=some u)
  (h1:∀u∈us,u.oneCell'=true):∃v,(loadVar t ⟨b,o,none⟩).run P w=.ok v w∧v.cells.toList=us∧shp i.ag v:=by
 cases hag:i.ag with
 |true=>
  refine⟨.agg us.toArray,?_,rfl,us.toArray,rfl⟩
  have h3:=run_loadCells_list (P:=P) (w:=w) ⟨b,o,none⟩ us (fun j v hv=>by rw[add_lit];exact hc j v hv)
  rw[hl]at h3
  simp only[loadVar,Sem.run_bind,h.isAgg,hag,Result.andThen_ok,if_true,h.sizeOf,h3]
  rfl
 | false =>
  have hs:i.size=1:=by obtain⟨_,_,_,_,_,h,_⟩:=h;exact h hag
  rw[hs]at hl
  obtain⟨u,rfl⟩:∃u,us=[u]:=by
   match us,hl with
   |[u],_=>exact⟨u,rfl⟩
  have hu:u.oneCell'=true:=h1 u (by simp)
  refine⟨u,?_,ZC hu,hu⟩
  have:=hc 0 u rfl
  simp only[Nat.add_zero]at this
  simp[loadVar,h.isAgg,hag,this]
def zCN(P:Program)(cx:Cx)(o:Oper)(st st':St):Prop:=
 ∀a w Z ω,Rel cx st a w Z ω→∃v w' Z' ω',((execOp a.eval o).run P w=.ok (.value v) w'∨((execOp a.eval o).run P w=.ok .skip w'∧v=undef))∧Rel cx st' (a.put o.dst v) w' Z' ω'
def evS(T:Nat→Option TI)(st:St)(ty:TypeId):Operand→Option SV
 | .const v => match v with
  | .slice none 0 0 => match T ty with
   | some i => match i.k with
    |.sl e=>match T e with
     |some ie=>some (.val false [.sl true ie.size []])
     |none=>none
    |_=>none
   |none=>none
  |v=>bif v.oneCell' then some (.val false [.lit v])else none
 |.tmp t=>match lk st.s t with
  |some (.val ag cs)=>bif zZ cs then some (.val ag cs)else some (.ref (.slot t) [] 0 0 cs.length ag)
  |some (.tup _)=>none
  |some (.ref r q m o n ag)=>some (.ref r q m o n ag)
  |some (.adr r q m o)=>some (.adr r q m o)
  |some (.fad cs)=>some (.fad cs)
  |none=>none
 |_=>none
def SV.on(d:Nat):SV→Bool
 |.ref r _ _ _ _ _|.adr r _ _ _=>r.eqb (.slot d)
 |_=>false
theorem zQS{w Z ω tm d v}(h:v.oneCell'=true):zMl w Z ω tm d v (.val false [.lit v]):=by
 refine⟨h,by rw[ZC h];rfl,fun j c u hc hu=>?_⟩
 rw[ZC h]at hu
 cases j with
 |zero=>
  simp only[List.getElem?_cons_zero,Option.some.injEq]at hc hu
  subst hc;subst hu
  exact .lit _ _ h
 |succ j=>simp at hc
theorem zMl.copy{w Z ω tm tm'}{t d:Nat}{v:Value}{sv:SV}(h:zMl w Z ω tm t v sv)(hd:sv.on d=false)(htm:∀x,x≠d→tm'.getD x undef=tm.getD x undef)
  (hsv:match sv with|.val _ cs=>zZ cs=true|.tup _=>False|_=>True):zMl w Z ω tm' d v sv:=by
 cases sv with
 |val ag cs=>exact⟨h.1,h.2.flat_conv hsv _ fun b hb=>⟨hb,rfl⟩⟩
 | ref r q m o n ag =>
  obtain⟨h1,h2,h3⟩:=h
  refine⟨h1,h2,fun j u hu=>?_⟩
  have:=h3 j u hu
  cases q with
  | nil =>
   cases r with
   |slot t0=>
    simp only[CellIs]at this⊢
    rw[htm t0 (fun e=>by subst e;simp[SV.on,zn.eqb]at hd)]
    exact this
   |box k=>exact this
  |cons y q=>exact this
 |adr r q m o=>exact h
 |fad cs=>exact h
 |tup vs=>exact hsv.elim
theorem zNM{T:Nat→Option TI}{cx st a w Z ω}(h:Rel cx st a w Z ω){ty:TypeId}{x:Operand}{sv:SV}(hx:evS T st ty x=some sv){d:Nat}(hd:sv.on d=false){v':Value} :
  zMl w Z ω (a.put (some d) v').tmps d (a.eval x) sv:=by
 have htm:∀y,y≠d→(a.put (some d) v').tmps.getD y undef=a.tmps.getD y undef:=fun y hy=>Zq hy
 cases x with
 | const v =>
  simp only[evS]at hx
  split at hx
  ·split at hx
   ·split at hx
    ·split at hx
     ·cases hx
      refine⟨rfl,rfl,fun j c u hc hu=>?_⟩
      cases j with
      | zero =>
       simp only[List.getElem?_cons_zero,Option.some.injEq]at hc
       subst hc
       have:u=.slice none 0 0:=by
        have:(some (Value.slice none 0 0))=some u:=hu
        exact(Option.some.inj this).symm
       subst this
       exact .nil _ _ _
      |succ j=>simp at hc
     ·cases hx
    ·cases hx
   ·cases hx
  ·cases hone:v.oneCell' with
   |true=>
    simp only[hone,cond_true,Option.some.injEq]at hx
    subst hx
    exact zQS hone
   |false=>simp only[hone,cond_false]at hx;cases hx
 | tmp t =>
  simp only[evS]at hx
  split at hx
  ·rename_i ag cs hl
   have hr:=h.hs t _ (zw hl)
   cases hf:zZ cs with
   |true=>
    simp only[hf,cond_true,Option.some.injEq]at hx
    subst hx
    exact hr.copy hd htm hf
   | false =>
    simp only[hf,cond_false,Option.some.injEq]at hx
    subst hx
    refine⟨hr.1,?_,fun j u hu=>?_⟩
    ·rw[←Array.length_toList]
     exact hr.2.1
    ·simp only[CellIs,Nat.zero_add]
     rw[htm t (fun e=>by subst e;simp[SV.on,zn.eqb]at hd)]
     exact hu
  ·cases hx
  ·rename_i hl
   cases hx
   exact(h.hs t _ (zw hl)).copy hd htm trivial
  ·rename_i hl
   cases hx
   exact(h.hs t _ (zw hl)).copy hd htm trivial
  ·rename_i hl
   cases hx
   exact(h.hs t _ (zw hl)).copy hd htm trivial
  ·cases hx
 |global g=>simp[evS]at hx
 |func f=>simp[evS]at hx
theorem Rel.put_same{cx st a w Z ω}(h:Rel cx st a w Z ω){d:Nat}{v:Value}{sv:SV}(hd:st.okD d)(hv:zMl w Z ω (a.put (some d) v).tmps d v sv):Rel cx (st.put d sv) (a.put (some d) v) w Z ω:=
 h.put hd h.inv (fun b hb=>⟨hb,rfl⟩) (fun r _ b x hb=>⟨hb,rfl⟩) hv
theorem zQb{P:Program}{cx:Cx}{T:Nat→Option TI}{st:St}{o:Oper}{x:Operand}{d:Nat}{sv:SV}(ho:o.op=.move x∨o.op=.assign x)(hdst:o.dst=some d)(hd:st.okD d)
  (hx:evS T st o.type x=some sv) (hon:sv.on d=false):zCN P cx o st (st.put d sv):=by
 intro a w Z ω h
 refine⟨a.eval x,w,Z,ω,.inl ?_,?_⟩
 ·rcases ho with ho|ho<;>simp[execOp,ho]
 ·rw[hdst]
  exact h.put_same hd (zNM h hx hon)
def Ql(st:St):Operand→Option Value
 |.const v=>bif v.oneCell' then some v else none
 |.tmp t=>match lk st.s t with
  |some (.val false [.lit v])=>some v
  |_=>none
 |_=>none
theorem Ze.lit_inv{w Z ω p us v}(h:Ze w Z ω p us [.lit v]):us=[v]∧v.oneCell'=true:=by
 obtain⟨h1,h2⟩:=h
 match us,h1 with
 |[u],_=>
  have:=h2 0 (.lit v) u rfl rfl
  cases this with
  |lit _ _ h=>exact⟨rfl,h⟩
theorem qY{cx st a w Z ω}(h:Rel cx st a w Z ω){x:Operand}{v:Value}(hx:Ql st x=some v):a.eval x=v∧v.oneCell'=true:=by
 cases x with
 |const u=>
  simp only[Ql]at hx
  cases hone:u.oneCell' with
  |true=>simp only[hone,cond_true,Option.some.injEq]at hx;subst hx;exact⟨rfl,hone⟩
  |false=>simp[hone]at hx
 | tmp t =>
  simp only[Ql]at hx
  split at hx
  ·rename_i u hl
   cases hx
   have hr:=h.hs t _ (zw hl)
   have h1:=hr.2.lit_inv
   have h2:(a.tmps.getD t undef).oneCell'=true:=hr.1
   rw[ZC h2]at h1
   exact⟨(List.cons.inj h1.1).1,h1.2⟩
  ·cases hx
 |global g=>simp[Ql]at hx
 |func f=>simp[Ql]at hx
theorem zGP{P:Program}{cx:Cx}{st:St}{o:Oper}{d:Nat}{v:Value}(hdst:o.dst=some d)(hd:st.okD d)(hv:v.oneCell'=true)
  (hrun:∀a w Z ω,Rel cx st a w Z ω→(execOp a.eval o).run P w=.ok (.value v) w):zCN P cx o st (st.put d (.val false [.lit v])):=by
 intro a w Z ω h
 refine⟨v,w,Z,ω,.inl (hrun a w Z ω h),?_⟩
 rw[hdst]
 exact h.put_same hd (zQS hv)
end Go.TL
