import Derived.Test.YticeglbllcelaaaGreatTlD
set_option linter.unusedVariables false
namespace Go.TL
def zSE(isb:Bool)(op:BinOp):Value→Value→Option (Prop×Value)
 |.int k a,.int k' b=>match op with
  |.add=>some (k=k',.int k (k.wrap (a+b)))
  |.sub=>some (k=k',.int k (k.wrap (a-b)))
  |.mul=>some (k=k',.int k (k.wrap (a*b)))
  |.quo=>some (k=k'∧b≠0,.int k (k.wrap (a.tdiv b)))
  |.rem=>some (k=k'∧b≠0,.int k (a.tmod b))
  |.and=>some (k=k',.int k (k.wrap (BitVec.ofInt k.bits a&&&BitVec.ofInt k.bits b).toNat))
  |.or=>some (k=k',.int k (k.wrap (BitVec.ofInt k.bits a ||| BitVec.ofInt k.bits b).toNat))
  |.xor=>some (k=k',.int k (k.wrap (BitVec.ofInt k.bits a ^^^ BitVec.ofInt k.bits b).toNat))
  |.andNot=>some (k=k',.int k (k.wrap (BitVec.ofInt k.bits a&&& ~~~BitVec.ofInt k.bits b).toNat))
  |.shl=>some (0≤b,.int k (k.wrap (a*2^min b.toNat k.bits)))
  |.shr=>some (0≤b,.int k (a.fdiv (2^min b.toNat k.bits)))
  |.eql=>some (k=k',.bool (a==b))
  |.neq=>some (k=k',.bool (a != b))
  |.lss=>some (k=k',.bool (decide (a<b)))
  |.leq=>some (k=k',.bool (decide (a≤b)))
  |.gtr=>some (k=k',.bool (decide (a>b)))
  |.geq=>some (k=k',.bool (decide (a≥b)))
 |.string a,.string b=>match op with
  |.add=>some (a.size+b.size≤9223372036854775807,.string (a++b))
  |.eql=>some (True,.bool (a.toList==b.toList))
  |.neq=>some (True,.bool !(a.toList==b.toList))
  |_=>none
 |.bool a,.bool b=>match isb,op with
  |true,.eql=>some (True,.bool (a==b))
  |true,.neq=>some (True,.bool !(a==b))
  |_,_=>none
 |_,_=>none
def isBool(T:Nat→Option TI)(t:TypeId):Bool:=match T t with
 |some i=>match i.k with
  |.bool=>true
  |_=>false
 |none=>false
theorem zI2{P:Program}{T:Nat→Option TI}(hT:TOk P T){t:TypeId}(h:isBool T t=true):P.underlying t=some .bool:=by
 unfold isBool at h
 split at h
 ·rename_i i hi
  split at h
  ·rename_i hk
   obtain⟨_,_,_,_,_,_,h6⟩:=hT t i hi
   rw[hk]at h6
   exact h6
  ·cases h
 ·cases h
theorem zIT{P:Program}{T:Nat→Option TI}(hT:TOk P T){op:BinOp}{t:TypeId}{x y:Value}{φ:Prop}{v:Value}(h:zSE (isBool T t) op x y=some (φ,v))(hφ:φ)(ox oy:Operand)(w:World):
  ((do eqGuard op t ox oy x y;binOp op t x y:Sem Value).run P w=.ok v w)∧v.oneCell'=true:=by
 unfold zSE at h
 split at h
 ·rename_i k a k' b
  have hg:(eqGuard op t ox oy (.int k a) (.int k' b)).run P w=.ok () w:=by
   unfold eqGuard;cases op<;>rfl
  cases op<;>simp only[Option.some.injEq,Prod.mk.injEq]at h<;>obtain⟨rfl,rfl⟩:=h<;>refine⟨?_,rfl⟩<;>simp only[Sem.run_bind,hg,Result.andThen_ok]
  case quo=>obtain⟨rfl,hb⟩:=hφ;simp[binOp,Op.intDiv,hb]
  case rem=>obtain⟨rfl,hb⟩:=hφ;simp[binOp,Op.intDiv,hb]
  case shl=>simp[binOp,Op.shift,Int.not_lt.2 hφ]
  case shr=>simp[binOp,Op.shift,Int.not_lt.2 hφ]
  case add=>subst hφ;simp[binOp,Op.intArith]
  case sub=>subst hφ;simp[binOp,Op.intArith]
  case mul=>subst hφ;simp[binOp,Op.intArith]
  case and=>subst hφ;simp[binOp,Op.intBits]
  case or=>subst hφ;simp[binOp,Op.intBits]
  case xor=>subst hφ;simp[binOp,Op.intBits]
  case andNot=>subst hφ;simp[binOp,Op.intBits]
  all_goals (subst hφ;simp[binOp,Op.intCmp])
 ·rename_i a b
  have hg:(eqGuard op t ox oy (.string a) (.string b)).run P w=.ok () w:=by
   unfold eqGuard;cases op<;>rfl
  cases op<;>simp only[Option.some.injEq,Prod.mk.injEq,reduceCtorEq]at h<;>obtain⟨rfl,rfl⟩:=h<;>refine⟨?_,rfl⟩<;>simp only[Sem.run_bind,hg,Result.andThen_ok]
  case add=>
   have h9:¬((a.size+b.size:Nat):Int)>IntKind.i64.max:=by
    have:IntKind.i64.max=9223372036854775807:=by decide
    rw[this];omega
   simp only[binOp,Op.stringOp,if_neg h9]
   rfl
  all_goals simp[binOp,Op.stringOp]
 ·rename_i a b
  split at h
  ·rename_i hb
   have hb':=zI2 hT hb
   simp only[Option.some.injEq,Prod.mk.injEq]at h
   obtain⟨rfl,rfl⟩:=h
   refine⟨?_,rfl⟩
   simp[eqGuard,binOp,run_equal_bool w t a b hb']
  ·rename_i hb
   have hb':=zI2 hT hb
   simp only[Option.some.injEq,Prod.mk.injEq]at h
   obtain⟨rfl,rfl⟩:=h
   refine⟨?_,rfl⟩
   simp[eqGuard,binOp,run_equal_bool w t a b hb']
  ·cases h
 ·cases h
theorem zSQ{P:Program}{cx:Cx}{T:Nat→Option TI}(hT:TOk P T){st:St}{o:Oper}{op:BinOp}{t ty:TypeId}{x y:Operand}{d:Nat}{vx vy v:Value}{φ:Prop}
  (ho:o.op=.binOp op t x y ty) (hdst:o.dst=some d) (hd:st.okD d) (hx:Ql st x=some vx) (hy:Ql st y=some vy) (hb:zSE (isBool T t) op vx vy=some (φ,v)) (hφ:φ):
  zCN P cx o st (st.put d (.val false [.lit v])):=by
 have hv:v.oneCell'=true:=(zIT (P:=P) hT hb hφ x y default).2
 refine zGP hdst hd hv fun a w Z ω h=>?_
 have h1:=(qY h hx).1
 have h2:=(qY h hy).1
 have h3:=(zIT (P:=P) hT hb hφ x y w).1
 simp only[execOp,ho,h1,h2]
 simp only[Sem.run_bind]at h3⊢
 rw[h3]
 rfl
def unV(op:UnOp):Value→Option Value
 |.int k n=>match op with
  |.neg=>some (.int k (k.wrap (0-n)))
  |_=>none
 |.bool b=>match op with
  |.not=>some (.bool !b)
  |_=>none
 |_=>none
theorem zUc{P:Program}{cx:Cx}{st:St}{o:Oper}{op:UnOp}{t:TypeId}{x:Operand}{d:Nat}{vx v:Value}
  (ho:o.op=.unOp op t x) (hdst:o.dst=some d) (hd:st.okD d) (hx:Ql st x=some vx) (hb:unV op vx=some v):
  zCN P cx o st (st.put d (.val false [.lit v])):=by
 have hv:v.oneCell'=true:=by
  unfold unV at hb
  split at hb<;>first|(split at hb<;>cases hb<;>rfl)|cases hb
 refine zGP hdst hd hv fun a w Z ω h=>?_
 have h1:=(qY h hx).1
 unfold unV at hb
 split at hb<;>first|(split at hb<;>cases hb<;>simp[execOp,ho,h1,Op.unary,Op.intArith])|cases hb
theorem zQc{P:Program}{cx:Cx}{st:St}{o:Oper}{c x y:Operand}{d:Nat}{b:Bool}{vx vy:Value}
  (ho:o.op=.pick c x y) (hdst:o.dst=some d) (hd:st.okD d) (hc:Ql st c=some (.bool b)) (hx:b=true→Ql st x=some vx) (hy:b=false→Ql st y=some vy)
  (hvx:vx.oneCell'=true) (hvy:vy.oneCell'=true):
  zCN P cx o st (st.put d (.val false [.lit (bif b then vx else vy)])):=by
 refine zGP hdst hd (by cases b;exact hvy;exact hvx) fun a w Z ω h=>?_
 have h1:=(qY h hc).1
 cases b with
 |true=>have h2:=(qY h (hx rfl)).1;simp[execOp,ho,h1,h2,asBool]
 |false=>have h2:=(qY h (hy rfl)).1;simp[execOp,ho,h1,h2,asBool]
theorem zJ4{cx st a w Z ω}(h:Rel cx st a w Z ω){t:Nat}{r:zn}{q:List (Nat×Nat)}{m o n:Nat}{ag:Bool}(hl:lk st.s t=some (.ref r q m o n ag)){row e:List CV}(hr:rowOf st r=some row)
  (hg:zAM row q=some e) (hm:q=[]∨e.length=m):
  shp ag (a.tmps.getD t undef)∧(a.tmps.getD t undef).cells.size=n∧∀j u c,(a.tmps.getD t undef).cells[j]? =some u→e[o+j]? =some c→Qg w Z ω (r.path++qj q++[o+j]) u c:=by
 obtain⟨h1,h2,h3⟩:=h.hs t _ (zw hl)
 refine⟨h1,h2,fun j u c hu hc=>?_⟩
 obtain⟨us,hR,hus⟩:=h.row hr
 have hcell:=h3 j u hu
 cases q with
 | nil =>
  simp only[zAM,Option.some.injEq]at hg
  subst hg
  cases r with
  |slot t0=>
   have:=hus t0 rfl
   subst this
   simp only[CellIs]at hcell
   have:=hR.2 (o+j) c u hc (by simpa using hcell)
   simpa [qj]using this
  |box k=>exact hcell.elim
 |cons y q=>
  have hm':e.length=m:=hm.resolve_left (by simp)
  obtain⟨b,cur,T',k1,k2,k3⟩:=zKd (y::q) _ _ _ e (by simp) hR hg
  obtain⟨b',cur',T2,g1,g2,g3⟩:=hcell
  have hbb:b'=b:=h.inv.inj _ _ _ g1 k1
  subst hbb
  rw[g2]at k2
  cases k2
  obtain⟨u',f1,f2⟩:=k3 (o+j) c hc
  rw[hm',g3]at f1
  cases f1
  exact f2
structure zFp where
 r:zn
 q:List (Nat×Nat)
 o:Nat
 own:Bool
 sz:Nat
 es:List (List CV)
def slS(st:St):Operand→Option zFp
 | .tmp t => match lk st.s t with
  |some (.val false [.sl own sz es])=>some ⟨.slot t,[],0,own,sz,es⟩
  | some (.ref r q m o 1 false) => match rowOf st r with
   |some row=>match zAM row q with
    | some e => bif q.isEmpty || e.length == m then (match e[o]? with
      |some (.sl own sz es)=>some ⟨r,q,o,own,sz,es⟩
      |_=>none)else none
    |none=>none
   |none=>none
  |_=>none
 |_=>none
theorem zCc{cx st a w Z ω}(h:Rel cx st a w Z ω){x:Operand}{s:zFp}(hx:slS st x=some s):Qg w Z ω (s.r.path++qj s.q++[s.o]) (a.eval x) (.sl s.own s.sz s.es):=by
 cases x with
 | tmp t =>
  simp only[slS]at hx
  split at hx
  ·rename_i own sz es hl
   cases hx
   have hr:=h.hs t _ (zw hl)
   have h1:(a.tmps.getD t undef).oneCell'=true:=hr.1
   have h2:=hr.2.2 0 (.sl own sz es) (a.tmps.getD t undef) rfl (by rw[ZC h1];rfl)
   show Qg w Z ω _ (a.tmps.getD t undef) _
   simpa [qj,zn.path]using h2
  ·rename_i r q m o hl
   split at hx
   ·rename_i row hrow
    split at hx
    ·rename_i e hg
     cases hm:(q.isEmpty||e.length==m)with
     | true =>
      simp only[hm,cond_true]at hx
      split at hx
      ·rename_i own sz es he
       cases hx
       have hm':q=[]∨e.length=m:=by simpa using hm
       obtain⟨k1,k2,k3⟩:=zJ4 h hl hrow hg hm'
       have k1':(a.tmps.getD t undef).oneCell'=true:=k1
       have:=k3 0 (a.tmps.getD t undef) (.sl own sz es) (by rw[cells_one k1'];rfl) (by simpa using he)
       show Qg w Z ω _ (a.tmps.getD t undef) _
       simpa using this
      ·cases hx
     |false=>simp only[hm,cond_false]at hx;cases hx
    ·cases hx
   ·cases hx
  ·cases hx
 |const v=>simp[slS]at hx
 |global g=>simp[slS]at hx
 |func f=>simp[slS]at hx
theorem Qg.slice{w Z ω p v own sz es}(h:Qg w Z ω p v (.sl own sz es)):∃ad cap,v=.slice ad es.length cap∧es.length≤cap∧cap≤maxLen∧(ad=none→es=[]):=by
 cases h with
 |nil=>exact⟨none,0,rfl,Nat.le_refl _,by simp[maxLen],fun _=>rfl⟩
 |fro _ a cap _ _ us hs hZ hcap hm=>exact⟨some a,cap,rfl,hcap,hm,fun h=>by cases h⟩
 |own _ b cap _ _ us cur T hω hb hcap hm=>exact⟨_,cap,rfl,hcap,hm,fun h=>by cases h⟩
def zCO(T:Nat→Option TI)(t:TypeId):Option TypeId:=match T t with
 |some i=>match i.k with
  |.sl e=>some e
  |_=>none
 |none=>none
theorem zCR{P:Program}{T:Nat→Option TI}(hT:TOk P T){t e:TypeId}(h:zCO T t=some e):P.underlying t=some (.slice e):=by
 unfold zCO at h
 split at h
 ·rename_i i hi
  split at h
  ·rename_i hk
   cases h
   obtain⟨_,_,_,_,_,_,h6⟩:=hT t i hi
   rw[hk]at h6
   exact h6
  ·cases h
 ·cases h
def zPe(T:Nat→Option TI)(t:TypeId):Bool:=match T t with
 |some i=>match i.k with
  |.str=>true
  |_=>false
 |none=>false
theorem zOf{P:Program}{T:Nat→Option TI}(hT:TOk P T){t:TypeId}(h:zPe T t=true):P.underlying t=some .string:=by
 unfold zPe at h
 split at h
 ·rename_i i hi
  split at h
  ·rename_i hk
   obtain⟨_,_,_,_,_,_,h6⟩:=hT t i hi
   rw[hk]at h6
   exact h6
  ·cases h
 ·cases h
theorem zQH{P:Program}{cx:Cx}{T:Nat→Option TI}(hT:TOk P T){st:St}{o:Oper}{t e:TypeId}{x:Operand}{d:Nat}{s:zFp}
  (ho:o.op=.call { callee:=.builtin .len,args:= #[x],argTypes:= #[t] }) (hdst:o.dst=some d) (hd:st.okD d) (ht:zCO T t=some e) (hx:slS st x=some s):
  zCN P cx o st (st.put d (.val false [.lit (.int .i64 s.es.length)])):=by
 refine zGP hdst hd rfl fun a w Z ω h=>?_
 obtain⟨ad,cap,hv,_⟩:=(zCc h hx).slice
 have hu:=zCR hT ht
 simp[execOp,ho,resolve,invoke,builtin,Builtin.len_,hv,run_underlying hu,goInt]
theorem zSr{P:Program}{cx:Cx}{T:Nat→Option TI}(hT:TOk P T){st:St}{o:Oper}{t:TypeId}{x:Operand}{d:Nat}{s:ByteArray}
  (ho:o.op=.call { callee:=.builtin .len,args:= #[x],argTypes:= #[t] }) (hdst:o.dst=some d) (hd:st.okD d) (ht:zPe T t=true) (hx:Ql st x=some (.string s)):
  zCN P cx o st (st.put d (.val false [.lit (.int .i64 s.size)])):=by
 refine zGP hdst hd rfl fun a w Z ω h=>?_
 have hv:=(qY h hx).1
 have hu:=zOf hT ht
 simp[execOp,ho,resolve,invoke,builtin,Builtin.len_,hv,run_underlying hu,goInt]
def mmV(mx:Bool):Value→Value→Option Value
 |.int k x,.int _ y=>some (.int k (bif mx then(if y>x then y else x)else(if y<x then y else x)))
 |_,_=>none
theorem zTo{P:Program}{cx:Cx}{st:St}{o:Oper}{ts:Array TypeId}{x y:Operand}{d:Nat}{vx vy v:Value}
  (ho:o.op=.call { callee:=.builtin .max,args:= #[x,y],argTypes:=ts }) (hdst:o.dst=some d) (hd:st.okD d) (hx:Ql st x=some vx) (hy:Ql st y=some vy) (hv:mmV true vx vy=some v):
  zCN P cx o st (st.put d (.val false [.lit v])):=by
 unfold mmV at hv
 split at hv
 ·cases hv
  refine zGP hdst hd rfl fun a w Z ω h=>?_
  have h1:=(qY h hx).1
  have h2:=(qY h hy).1
  simp[execOp,ho,resolve,invoke,builtin,Builtin.max_,Builtin.max2,h1,h2]
 ·cases hv
theorem zTp{P:Program}{cx:Cx}{st:St}{o:Oper}{ts:Array TypeId}{x y:Operand}{d:Nat}{vx vy v:Value}
  (ho:o.op=.call { callee:=.builtin .min,args:= #[x,y],argTypes:=ts }) (hdst:o.dst=some d) (hd:st.okD d) (hx:Ql st x=some vx) (hy:Ql st y=some vy) (hv:mmV false vx vy=some v):
  zCN P cx o st (st.put d (.val false [.lit v])):=by
 unfold mmV at hv
 split at hv
 ·cases hv
  refine zGP hdst hd rfl fun a w Z ω h=>?_
  have h1:=(qY h hx).1
  have h2:=(qY h hy).1
  simp[execOp,ho,resolve,invoke,builtin,Builtin.min_,Builtin.min2,h1,h2]
 ·cases hv
end Go.TL
