import Derived.Test.YticeglbllcelaaaGreatTlU
set_option linter.unusedVariables false
namespace Go.TL
def Zx(st:St)(d:Nat):Bool:=Nat.ble st.lo d&&Nat.blt d st.n
theorem qi{st:St}{d:Nat}(h:Zx st d=true):st.okD d:=by
 unfold Zx at h
 rw[Bool.and_eq_true]at h
 exact⟨Nat.le_of_ble_eq_true h.1,Nat.le_of_ble_eq_true h.2⟩
def eqK(k k':IntKind):Bool:=match k,k' with
 |.i8,.i8|.i16,.i16|.i32,.i32|.i64,.i64|.u8,.u8|.u16,.u16|.u32,.u32|.u64,.u64=>true
 |_,_=>false
theorem zLx{k k':IntKind}(h:eqK k k'=true):k=k':=by cases k<;>cases k'<;>first|rfl|cases h
def zS8(isb:Bool)(op:BinOp):Value→Value→Option Value
 |.int k a,.int k' b=>bif eqK k k' then(match op with
  |.add=>some (.int k (k.wrap (a+b)))
  |.sub=>some (.int k (k.wrap (a-b)))
  |.mul=>some (.int k (k.wrap (a*b)))
  |.and=>some (.int k (k.wrap (BitVec.ofInt k.bits a&&&BitVec.ofInt k.bits b).toNat))
  |.or=>some (.int k (k.wrap (BitVec.ofInt k.bits a ||| BitVec.ofInt k.bits b).toNat))
  |.xor=>some (.int k (k.wrap (BitVec.ofInt k.bits a ^^^ BitVec.ofInt k.bits b).toNat))
  |.andNot=>some (.int k (k.wrap (BitVec.ofInt k.bits a&&& ~~~BitVec.ofInt k.bits b).toNat))
  |.eql=>some (.bool (a==b))
  |.neq=>some (.bool (a != b))
  |.lss=>some (.bool (decide (a<b)))
  |.leq=>some (.bool (decide (a≤b)))
  |.gtr=>some (.bool (decide (a>b)))
  |.geq=>some (.bool (decide (a≥b)))
  |_=>none)else none
 |.string a,.string b=>match op with
  |.eql=>some (.bool (a.toList==b.toList))
  |.neq=>some (.bool !(a.toList==b.toList))
  |_=>none
 |.bool a,.bool b=>match isb,op with
  |true,.eql=>some (.bool (a==b))
  |true,.neq=>some (.bool !(a==b))
  |_,_=>none
 |_,_=>none
theorem zNF{isb:Bool}{op:BinOp}{x y v:Value}(h:zS8 isb op x y=some v):∃φ,zSE isb op x y=some (φ,v)∧φ:=by
 unfold zS8 at h
 split at h
 ·rename_i k a k' b
  cases hk:eqK k k' with
  |false=>simp[hk]at h
  |true=>
   have hkk:=zLx hk
   simp only[hk,cond_true]at h
   cases op<;>simp only[Option.some.injEq,reduceCtorEq]at h<;>subst h<;>exact⟨_,rfl,hkk⟩
 ·cases op<;>simp only[Option.some.injEq,reduceCtorEq]at h<;>subst h<;>exact⟨_,rfl,trivial⟩
 ·split at h<;>first|(cases h;exact⟨_,rfl,trivial⟩)|cases h
 ·cases h
def zP8(T:Nat→Option TI)(st:St)(d:Nat):Builtin→List Operand→List TypeId→Option St
 | .len,[x],[t] => match zCO T t with
  |some _=>match slS st x with
   |some s=>some (st.put d (.val false [.lit (.int .i64 s.es.length)]))
   |none=>none
  |none=>bif zPe T t then(match Ql st x with
   |some (.string s)=>some (st.put d (.val false [.lit (.int .i64 s.size)]))
   |_=>none)else none
 | .max,[x,y],_ => match Ql st x with
  | some vx => match Ql st y with
   |some vy=>match mmV true vx vy with
    |some v=>some (st.put d (.val false [.lit v]))
    |none=>none
   |none=>none
  |none=>none
 | .min,[x,y],_ => match Ql st x with
  | some vx => match Ql st y with
   |some vy=>match mmV false vx vy with
    |some v=>some (st.put d (.val false [.lit v]))
    |none=>none
   |none=>none
  |none=>none
 |_,_,_=>none
theorem zNi{P:Program}{cx:Cx}{T:Nat→Option TI}(hT:TOk P T){st st':St}{o:Oper}{d:Nat}{b:Builtin}{as:Array Operand}{ts:Array TypeId}(ho:o.op=.call { callee:=.builtin b,args:=as,argTypes:=ts })(hdst:o.dst=some d)(hd:st.okD d)
  (h:zP8 T st d b as.toList ts.toList=some st'):zCN P cx o st st':=by
 unfold zP8 at h
 split at h
 ·rename_i x t has hts
  obtain rfl:as= #[x]:=by rw[←Array.toArray_toList (xs:=as),has]
  obtain rfl:ts= #[t]:=by rw[←Array.toArray_toList (xs:=ts),hts]
  split at h
  ·rename_i e ht
   split at h
   ·rename_i s hx
    cases h
    exact zQH hT ho hdst hd ht hx
   ·cases h
  ·cases hs:zPe T t with
   |false=>simp[hs]at h
   | true =>
    simp only[hs,cond_true]at h
    split at h
    ·rename_i s hx
     cases h
     exact zSr hT ho hdst hd hs hx
    ·cases h
 ·rename_i x y has
  obtain rfl:as= #[x,y]:=by rw[←Array.toArray_toList (xs:=as),has]
  split at h
  ·rename_i vx hx
   split at h
   ·rename_i vy hy
    split at h
    ·rename_i v hv
     cases h
     exact zTo ho hdst hd hx hy hv
    ·cases h
   ·cases h
  ·cases h
 ·rename_i x y has
  obtain rfl:as= #[x,y]:=by rw[←Array.toArray_toList (xs:=as),has]
  split at h
  ·rename_i vx hx
   split at h
   ·rename_i vy hy
    split at h
    ·rename_i v hv
     cases h
     exact zTp ho hdst hd hx hy hv
    ·cases h
   ·cases h
  ·cases h
 ·cases h
def zIa(T:Nat→Option TI)(st:St)(op:Op)(ty:TypeId):Option Nat→Option St
 | some d => bif Zx st d then (match op with
  |.move x|.assign x=>match evS T st ty x with
   |some sv=>bif sv.on d then none else some (st.put d sv)
   |none=>none
  | .binOp op t x y _ => match Ql st x with
   | some vx => match Ql st y with
    |some vy=>match zS8 (isBool T t) op vx vy with
     |some v=>some (st.put d (.val false [.lit v]))
     |none=>none
    |none=>none
   |none=>none
  | .unOp op _ x => match Ql st x with
   |some vx=>match unV op vx with
    |some v=>some (st.put d (.val false [.lit v]))
    |none=>none
   |none=>none
  | .pick c x y => match Ql st c with
   |some (.bool true)=>match Ql st x with
    |some v=>bif v.oneCell' then some (st.put d (.val false [.lit v]))else none
    |none=>none
   |some (.bool false)=>match Ql st y with
    |some v=>bif v.oneCell' then some (st.put d (.val false [.lit v]))else none
    |none=>none
   |_=>none
  | .load t (.tmp x) => match T t with
   | some i => match lk st.s x with
    |some (.fad cs0)=>bif (cs0.take i.size).length==i.size then some (st.put d (.val i.ag (cs0.take i.size)))else none
    |_=>match adS st (.tmp x)with
     | some s => bif ((s.e.drop s.o).take i.size).length == i.size && !s.r.eqb (.slot d) then
       some (st.put d (bif zZ ((s.e.drop s.o).take i.size)then .val i.ag ((s.e.drop s.o).take i.size)else .ref s.r s.q s.e.length s.o i.size i.ag))else none
     |none=>none
   |none=>none
  | .fieldAddr t (.tmp x) f => match zQU T t f with
   |some off=>match lk st.s x with
    |some (.adr r q m k)=>bif r.eqb (.slot d)then none else some (st.put d (.adr r q m (k+off)))
    |some (.fad cs)=>some (st.put d (.fad (cs.drop off)))
    |_=>none
   |none=>none
  |.nilCheck (.tmp x)=>match lk st.s x with
   |some (.adr r q m k)=>bif r.eqb (.slot d)then none else some (st.put d (.adr r q m k))
   |_=>none
  | .convert t u x => match isInt T t with
   | some _ => match isInt T u with
    |some k'=>match Ql st x with
     |some (.int _ n)=>some (st.put d (.val false [.lit (.int k' (k'.wrap n))]))
     |_=>none
    |none=>none
   |none=>none
  |.box t x=>match Yp T st t x with
   |some tk=>bif Zx tk.st d then some (tk.st.newBox d tk.cs)else none
   |none=>none
  |.alloc t=>match T t with
   |some i=>some (st.newBox d i.zero)
   |none=>none
  | .extract (.tmp t) k => match lk st.s t with
   |some (.tup vs)=>match vs[k]? with
    |some (ag,cs)=>bif d==t then none else some (st.extr d t k ag cs vs)
    |none=>none
   |_=>none
  | .build t ps => match stS T t with
   |some (fs,zero)=>match zLD T fs ps.toList st zero with
    |some (acc,st')=>bif Zx st' d then some (st'.put d (.val true acc))else none
    |none=>none
   |none=>none
  | .buildSlice t len ps => match zCO T t with
   | some e => match T e with
    |some ie=>match zOX T e ie.size 0 ps.toList st with
     |some (es,st')=>bif Zx st' d&&ps.toList.length==len&&Nat.ble (len*ie.size) 16777216&&Nat.ble len 1000000 then some (st'.put d (.val false [.sl true ie.size es]))else none
     |none=>none
    |none=>none
   |none=>none
  |.call { callee:=.builtin b,args:=as,argTypes:=ts } =>zP8 T st d b as.toList ts.toList
  |_=>none)else none
 | none => match op with
  | .store t ad x => match T t with
   | some i => match Yp T st t x with
    |some tk=>match adS tk.st ad with
     |some s=>bif tk.cs.length==i.size&&Nat.ble (s.o+i.size) s.e.length then tk.st.modR (zZ tk.cs) s.r s.q (setAt s.o tk.cs)else none
     |none=>none
    |none=>none
   |none=>none
  |_=>none
theorem zKZ{P:Program}{cx:Cx}{T:Nat→Option TI}(hT:TOk P T){st st':St}{o:Oper}(h:zIa T st o.op o.type o.dst=some st'):zCN P cx o st st':=by
 cases hdst:o.dst with
 | none =>
  rw[hdst]at h
  simp only[zIa]at h
  split at h
  ·rename_i t ad x ho
   split at h
   ·rename_i i hi
    split at h
    ·rename_i tk htk
     split at h
     ·rename_i s hs
      cases hc:(tk.cs.length==i.size&&Nat.ble (s.o+i.size) s.e.length)with
      |false=>simp[hc]at h
      |true=>
       simp only[hc,cond_true]at h
       rw[Bool.and_eq_true]at hc
       exact zRo hT ho hdst hi htk (by simpa using hc.1) hs (Nat.le_of_ble_eq_true hc.2) h
     ·cases h
    ·cases h
   ·cases h
  ·cases h
 | some d =>
  rw[hdst]at h
  simp only[zIa]at h
  cases hok:Zx st d with
  |false=>simp[hok]at h
  | true =>
   have hd:=qi hok
   simp only[hok,cond_true]at h
   split at h
   ·rename_i x ho
    split at h
    ·rename_i sv hx
     cases hon:sv.on d with
     |true=>simp[hon]at h
     |false=>simp only[hon,cond_false,Option.some.injEq]at h;subst h;exact zQb (.inl ho) hdst hd hx hon
    ·cases h
   ·rename_i x ho
    split at h
    ·rename_i sv hx
     cases hon:sv.on d with
     |true=>simp[hon]at h
     |false=>simp only[hon,cond_false,Option.some.injEq]at h;subst h;exact zQb (.inr ho) hdst hd hx hon
    ·cases h
   ·rename_i op t x y ty ho
    split at h
    ·rename_i vx hx
     split at h
     ·rename_i vy hy
      split at h
      ·rename_i v hv
       cases h
       obtain⟨φ,h1,h2⟩:=zNF hv
       exact zSQ hT ho hdst hd hx hy h1 h2
      ·cases h
     ·cases h
    ·cases h
   ·rename_i op t x ho
    split at h
    ·rename_i vx hx
     split at h
     ·rename_i v hv
      cases h
      exact zUc ho hdst hd hx hv
     ·cases h
    ·cases h
   ·rename_i c x y ho
    split at h
    ·rename_i hc
     split at h
     ·rename_i v hv
      cases h1:v.oneCell' with
      |false=>simp[h1]at h
      |true=>
       simp only[h1,cond_true,Option.some.injEq]at h
       subst h
       have:=zQc (P:=P) (cx:=cx) (vy:=v) ho hdst hd hc (fun _=>hv) (fun e=>by cases e) h1 h1
       simpa using this
     ·cases h
    ·rename_i hc
     split at h
     ·rename_i v hv
      cases h1:v.oneCell' with
      |false=>simp[h1]at h
      |true=>
       simp only[h1,cond_true,Option.some.injEq]at h
       subst h
       have:=zQc (P:=P) (cx:=cx) (vx:=v) ho hdst hd hc (fun e=>by cases e) (fun _=>hv) h1 h1
       simpa using this
     ·cases h
    ·cases h
   ·rename_i t x ho
    split at h
    ·rename_i i hi
     split at h
     ·rename_i cs0 hx
      cases hl:((cs0.take i.size).length==i.size)with
      |false=>simp only[hl,cond_false]at h;cases h
      |true=>simp only[hl,cond_true,Option.some.injEq]at h;subst h;exact zPG hT ho hdst hd hi hx rfl (by simpa using hl)
     ·split at h
      ·rename_i s hs
       cases hc:(((s.e.drop s.o).take i.size).length==i.size&& !s.r.eqb (.slot d))with
       |false=>simp only[hc,cond_false]at h;cases h
       |true=>
        simp only[hc,cond_true,Option.some.injEq]at h
        subst h
        rw[Bool.and_eq_true]at hc
        exact zQZ hT ho hdst hd hi hs rfl (by simpa using hc.1) (by simpa using hc.2)
      ·cases h
    ·cases h
   ·rename_i t x f ho
    split at h
    ·rename_i off hoff
     split at h
     ·rename_i r q m k hx
      cases hr:r.eqb (.slot d)with
      |true=>simp[hr]at h
      |false=>simp only[hr,cond_false,Option.some.injEq]at h;subst h;exact zRm hT ho hdst hd hoff hx hr
     ·rename_i cs hx
      cases h
      exact zQy hT ho hdst hd hoff hx
     ·cases h
    ·cases h
   ·rename_i x ho
    split at h
    ·rename_i r q m k hx
     cases hr:r.eqb (.slot d)with
     |true=>simp[hr]at h
     |false=>simp only[hr,cond_false,Option.some.injEq]at h;subst h;exact zOi ho hdst hd hx hr
    ·cases h
   ·rename_i t u x ho
    split at h
    ·rename_i k0 ht
     split at h
     ·rename_i k' hu
      split at h
      ·rename_i k n hx
       cases h
       exact zRl hT ho hdst hd ht hu hx
      ·cases h
     ·cases h
    ·cases h
   ·rename_i t x ho
    split at h
    ·rename_i tk hx
     cases hd':Zx tk.st d with
     |false=>simp[hd']at h
     |true=>simp only[hd',cond_true,Option.some.injEq]at h;subst h;exact zTl ho hdst hx (qi hd')
    ·cases h
   ·rename_i t ho
    split at h
    ·rename_i i hi
     cases h
     exact zRj hT ho hdst hi hd
    ·cases h
   ·rename_i t k ho
    split at h
    ·rename_i vs hx
     split at h
     ·rename_i ag cs hk
      cases hdt:(d==t)with
      |true=>simp[hdt]at h
      |false=>simp only[hdt,cond_false,Option.some.injEq]at h;subst h;exact zPm ho hdst hd hx hk (by simpa using hdt)
     ·cases h
    ·cases h
   ·rename_i t ps ho
    split at h
    ·rename_i fs zero ht
     split at h
     ·rename_i acc st1 hps
      cases hd':Zx st1 d with
      |false=>simp[hd']at h
      |true=>simp only[hd',cond_true,Option.some.injEq]at h;subst h;exact zRk hT ho hdst ht hps (qi hd')
     ·cases h
    ·cases h
   ·rename_i t len ps ho
    split at h
    ·rename_i e ht
     split at h
     ·rename_i ie he
      split at h
      ·rename_i es st1 hps
       cases hc:(Zx st1 d&&ps.toList.length==len&&Nat.ble (len*ie.size) 16777216&&Nat.ble len 1000000)with
       |false=>simp only[hc,cond_false]at h;cases h
       |true=>
        simp only[hc,cond_true,Option.some.injEq]at h
        subst h
        simp only[Bool.and_eq_true]at hc
        obtain⟨⟨⟨c1,c2⟩,c3⟩,c4⟩:=hc
        exact zMv hT ho hdst ht he hps (by simpa using c2) (qi c1) (Nat.le_of_ble_eq_true c3) (Nat.le_trans (Nat.le_of_ble_eq_true c4) (by decide))
      ·cases h
     ·cases h
    ·cases h
   ·rename_i b as ts ho
    exact zNi hT ho hdst hd h
   ·cases h
def runN(T:Nat→Option TI)(ops:Array Oper):Nat→List Oper→St→Option (List Oper×St)
 |0,l,st=>some (l,st)
 |_+1,[],st=>some ([],st)
 | n + 1,o :: l,st => match o.guard with
  |none=>match zIa T st o.op o.type o.dst with
   |some st'=>runN T ops n l st'
   |none=>none
  | some (j,want) => match gdS ops st j with
   | some true => match want with
    |true=>(match zIa T st o.op o.type o.dst with
     |some st'=>runN T ops n l st'
     |none=>none)
    |false=>(match o.dst with
     |some d=>bif Zx st d then runN T ops n l (st.forget (some d))else none
     |none=>runN T ops n l st)
   | some false => match want with
    |false=>(match zIa T st o.op o.type o.dst with
     |some st'=>runN T ops n l st'
     |none=>none)
    |true=>(match o.dst with
     |some d=>bif Zx st d then runN T ops n l (st.forget (some d))else none
     |none=>runN T ops n l st)
   | none => bif gdN ops st j then (match o.dst with
     |some d=>bif Zx st d then runN T ops n l (st.forget (some d))else none
     |none=>runN T ops n l st)else none
theorem zAZ.runN{P:Program}{cx:Cx}{T:Nat→Option TI}(hT:TOk P T){ops:Array Oper}{K:St→Prop} :∀(n:Nat) (l:List Oper) (st:St) (l':List Oper) (st':St),runN T ops n l st=some (l',st')→zAZ P cx ops l' st' K→zAZ P cx ops l st K
 |0,l,st,l',st',h,hk=>by cases h;exact hk
 |n+1,[],st,l',st',h,hk=>by cases h;exact hk
 | n + 1,o :: l,st,l',st',h,hk => by
  have skip:∀(j:Nat) (want b:Bool),o.guard=some (j,want)→gdS ops st j=some b→b≠want→(match o.dst with|some d=>bif Zx st d then TL.runN T ops n l (st.forget (some d))else none|none=>TL.runN T ops n l st)=some (l',st')→zAZ P cx ops (o::l) st K:=by
   intro j want b hg hb hne h
   refine zAZ.guard hg hb ?_ (fun e=>absurd e hne) fun _=>?_
   ·intro x hx
    rw[hx]at h
    cases hok:Zx st x with
    |false=>simp[hok]at h
    |true=>exact qi hok
   ·cases hd:o.dst with
    |none=>rw[hd]at h;exact zAZ.runN hT n l st l' st' h hk
    |some d=>
     rw[hd]at h
     cases hok:Zx st d with
     |false=>simp[hok]at h
     |true=>simp only[hok,cond_true]at h;exact zAZ.runN hT n l _ l' st' h hk
  have take:∀(st1:St),zIa T st o.op o.type o.dst=some st1→TL.runN T ops n l st1=some (l',st')→OpT P cx o st (fun st'=>zAZ P cx ops l st' K):=fun st1 h1 h2=>
   (zKZ hT h1).opT (zAZ.runN hT n l st1 l' st' h2 hk)
  simp only[TL.runN]at h
  split at h
  ·rename_i hg
   split at h
   ·rename_i st1 h1
    exact zAZ.cons hg (take st1 h1 h)
   ·cases h
  ·rename_i j want hg
   have okd:∀st1,zIa T st o.op o.type o.dst=some st1→∀x,o.dst=some x→st.okD x:=by
    intro st1 h1 x hx
    rw[hx]at h1
    simp only[zIa]at h1
    cases hok:Zx st x with
    |false=>simp[hok]at h1
    |true=>exact qi hok
   split at h
   ·rename_i hb
    split at h
    ·split at h
     ·rename_i st1 h1
      exact zAZ.guard hg hb (okd st1 h1) (fun _=>take st1 h1 h) (fun e=>absurd rfl e)
     ·cases h
    ·exact skip _ _ _ hg hb (by simp) h
   ·rename_i hb
    split at h
    ·split at h
     ·rename_i st1 h1
      exact zAZ.guard hg hb (okd st1 h1) (fun _=>take st1 h1 h) (fun e=>absurd rfl e)
     ·cases h
    ·exact skip _ _ _ hg hb (by simp) h
   ·cases hN:gdN ops st j with
    |false=>simp[hN]at h
    | true =>
     simp only[hN,cond_true]at h
     refine zO3 hg hN ?_ ?_
     ·intro x hx
      rw[hx]at h
      cases hok:Zx st x with
      |false=>simp[hok]at h
      |true=>exact qi hok
     ·cases hd:o.dst with
      |none=>rw[hd]at h;exact zAZ.runN hT n l st l' st' h hk
      |some d=>
       rw[hd]at h
       cases hok:Zx st d with
       |false=>simp[hok]at h
       |true=>simp only[hok,cond_true]at h;exact zAZ.runN hT n l _ l' st' h hk
end Go.TL
