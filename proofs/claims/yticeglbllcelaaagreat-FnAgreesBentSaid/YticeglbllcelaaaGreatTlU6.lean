import Derived.Test.YticeglbllcelaaaGreatTlU5
set_option linter.unusedVariables false
namespace Go.TL
abbrev Rg(fn:Func)(k:Nat):Code:=.region k (rg fn k) false
abbrev Rd(fn:Func)(k:Nat):Code:=.region k (rg fn k) true
theorem zTt{P cx st}{c:Operand}{x y:Code}{Q:Exit→St→Prop}(hc:Ql st c=some (.bool true))(h:Tr P cx x st Q):Tr P cx (.cond c x y) st Q:=Tr.cond hc (fun _=>h) (fun h=>nomatch h)
theorem zTs{P cx st}{c:Operand}{x y:Code}{Q:Exit→St→Prop}(hc:Ql st c=some (.bool false))(h:Tr P cx y st Q):Tr P cx (.cond c x y) st Q:=Tr.cond hc (fun h=>nomatch h) (fun _=>h)
theorem Tr.cT{P cx st}{c:Operand}{x y:Code}{Q:Exit→St→Prop}{e:Bool}(he:e=true)(hc:Ql st c=some (.bool e))(h:Tr P cx x st Q):Tr P cx (.cond c x y) st Q:=zTt (by rw[hc,he]) h
theorem Tr.cF{P cx st}{c:Operand}{x y:Code}{Q:Exit→St→Prop}{e:Bool}(he:e=false)(hc:Ql st c=some (.bool e))(h:Tr P cx y st Q):Tr P cx (.cond c x y) st Q:=zTs (by rw[hc,he]) h
theorem zTw{P:Program}{cx:Cx}{T:Nat→Option TI}(hT:TOk P T){st:St}{id:Nat}{ops:Array Oper}{c:Code}{Q:Exit→St→Prop}(n m b:Nat)(h1:(zKU T ops 0 n st).isSome=true)(h2:Nat.ble ops.size (0+n)=true)(hk:Tr P cx c ((zGl T ops 0 n st).onlyM m b) Q):Tr P cx (.seq (.region id ops false) c) st Q:=
 zSa (zH1 hT n h1 (zH4 m b h2 hk))
theorem zTv{P:Program}{cx:Cx}{T:Nat→Option TI}(hT:TOk P T){st:St}{id:Nat}{ops:Array Oper}{Q:Exit→St→Prop}(n m b:Nat)(h1:(zKU T ops 0 n st).isSome=true)(h2:Nat.ble ops.size (0+n)=true)(hk:Q .normal ((zGl T ops 0 n st).onlyM m b)):Tr P cx (.region id ops false) st Q:=
 Tr.at (zH1 hT n h1 (zH4 m b h2 hk))
def zDG(ops:Array Oper)(i:Nat):Array Operand:=match opAt ops i with
 |some (.call c,_,_,_)=>c.args
 |_=> #[]
def zD4(ops:Array Oper)(i:Nat):Array TypeId:=match opAt ops i with
 |some (.call c,_,_,_)=>c.argTypes
 |_=> #[]
def opD(ops:Array Oper)(i:Nat):Option Nat:=match opAt ops i with
 |some (_,d,_,_)=>d
 |_=>none
def opY(ops:Array Oper)(i:Nat):TypeId:=match opAt ops i with
 |some (_,_,t,_)=>t
 |_=>0
def opG(ops:Array Oper)(i:Nat):Option (Nat×Bool):=match opAt ops i with
 |some (_,_,_,g)=>g
 |_=>none
def dB(st:St):Option Nat→Bool
 |some d=>Zx st d
 |none=>true
theorem zRI{P:Program}{cx:Cx}{T:Nat→Option TI}(hT:TOk P T){ops:Array Oper}{i:Nat}{st:St}{K:St→Prop}(ms:List Mode)(brs:List zn){f:FuncId}{ps:List JX}{rets:List Ret}(hL:zb P f ps rets [])
  (hop:opAt ops i=some (.call { callee:=.value (.func f),args:=zDG ops i,argTypes:=zD4 ops i },opD ops i,opY ops i,opG ops i)) (hg:gdT ops st (opG ops i)=true) (hd:dB st (opD ops i)=true)
  (hq:(zJR T ms (zDG ops i).toList (zD4 ops i).toList (opD ops i) rets st).map (fun x=>(x.1,x.2.1))=some (ps,brs)) (hmine:brs=[]∨∀r∈rets,r.mine) (hk:LAt P cx ops (i+1) (zJI T ms (zDG ops i).toList (zD4 ops i).toList (opD ops i) rets st) K):LAt P cx ops i st K:=by
 have key:∀(av:Array Operand) (ats:Array TypeId) (d:Option Nat) (ty:TypeId) (g:Option (Nat×Bool)),opAt ops i=some (.call { callee:=.value (.func f),args:=av,argTypes:=ats },d,ty,g)→gdT ops st g=true→dB st d=true→
   (zJR T ms av.toList ats.toList d rets st).map (fun x=>(x.1,x.2.1))=some (ps,brs)→LAt P cx ops (i+1) (zJI T ms av.toList ats.toList d rets st) K→LAt P cx ops i st K:=fun av ats d ty g hop hg hd hq hk=>by
  cases d with
  |none=>exact zN3 hT ms hop hg rfl brs hL hq hmine hk
  |some d=>exact zN3 hT ms hop hg hd brs hL hq hmine hk
 exact key _ _ _ _ _ hop hg hd hq hk
def rowB(st:St)(r:zn):List CV:=match rowOf st r with
 |some x=>x
 |none=>[]
def zMD(st:St)(r:zn):List CV:=match zE7 st r with
 |some x=>x
 |none=>[]
def zOM(kd:Bool)(st:St)(r:zn)(n o:Nat)(c:CV):St:=zQE kd st r n ((zMD st r).set o c)
theorem zP6{P:Program}{cx:Cx}{T:Nat→Option TI}(hT:TOk P T){ops:Array Oper}{n:Nat}{st:St}{K:St→Prop}{t ty:TypeId}{ad x:Operand}{g:Option (Nat×Bool)}(i:TI)(ag:Bool)(tcs:List CV)(k:Nat)(o2 j m o sz:Nat){α:Type}(L:List α)(row:α→List CV)(el new:α)
  (hop:opAt ops n=some (.store t ad x,none,ty,g)) (hg:gdT ops st g=true) (ht:T t=some i) (hx:(Yp T st t x).map (fun tk=>(tk.ag,tk.cs))=some (ag,tcs)) (hl:(tcs.length==i.size)=true) (ha:zLn (zBC T st t x) ad=some (.slot k,[(o2,j)],m,o,zMD (zBC T st t x) (.slot k))) (hrr:zE7 (zBC T st t x) (.slot k)=some (zMD (zBC T st t x) (.slot k)))
  (hc:(zMD (zBC T st t x) (.slot k))[o2]? =some (.sl true sz (L.map row))) (he:L[j]? =some el) (hm:(row el).length=m) (hle:Nat.ble (o+i.size) m=true) (hf:setAt o tcs (row el)=row new)
  (hst:((zBC T st t x).modRK (zZ tcs) (.slot k) 1 ((zMD (zBC T st t x) (.slot k)).set o2 (.sl true sz ((L.set j new).map row)))).isSome=true) (hk:LAt P cx ops (n+1) (zOM (zZ tcs) (zBC T st t x) (.slot k) 1 o2 (.sl true sz ((L.set j new).map row))) K):LAt P cx ops n st K:=
 zAz hT i ag tcs (.slot k) [(o2,j)] [(o2,j)] m o _ (row el) _ _ hop hg ht hx hl ha (Qc hc he) hm (by intro h;cases h) hle hrr rfl (zJ0 hc he hf) hst hk
theorem QR{P:Program}{cx:Cx}{T:Nat→Option TI}(hT:TOk P T){ops:Array Oper}{n:Nat}{st:St}{K:St→Prop}{t ty:TypeId}{ad x:Operand}{g:Option (Nat×Bool)}(i:TI)(ag:Bool)(tcs:List CV)(k:Nat)(o2 j m o sz:Nat){α:Type}(L:List α)(row:α→List CV)(el new:α)
  (hop:opAt ops n=some (.store t ad x,none,ty,g)) (hg:gdT ops st g=true) (ht:T t=some i) (hx:(Yp T st t x).map (fun tk=>(tk.ag,tk.cs))=some (ag,tcs)) (hl:(tcs.length==i.size)=true) (ha:zLn (zBC T st t x) ad=some (.box k,[(0,0),(o2,j)],m,o,[.sl true (zMD (zBC T st t x) (.box k)).length [zMD (zBC T st t x) (.box k)]])) (hrr:zE7 (zBC T st t x) (.box k)=some (zMD (zBC T st t x) (.box k)))
  (hc:(zMD (zBC T st t x) (.box k))[o2]? =some (.sl true sz (L.map row))) (he:L[j]? =some el) (hm:(row el).length=m) (hle:Nat.ble (o+i.size) m=true) (hf:setAt o tcs (row el)=row new)
  (hst:((zBC T st t x).modRK (zZ tcs) (.box k) 2 ((zMD (zBC T st t x) (.box k)).set o2 (.sl true sz ((L.set j new).map row)))).isSome=true) (hk:LAt P cx ops (n+1) (zOM (zZ tcs) (zBC T st t x) (.box k) 2 o2 (.sl true sz ((L.set j new).map row))) K):LAt P cx ops n st K:=
 zAz hT i ag tcs (.box k) [(0,0),(o2,j)] [(o2,j)] m o _ (row el) _ _ hop hg ht hx hl ha (zq hc he) hm (by intro h;cases h) hle hrr rfl (zJ0 hc he hf) hst hk
def zOa(s:ByteArray):List CV:=[.lit (.string s)]
end Go.TL
