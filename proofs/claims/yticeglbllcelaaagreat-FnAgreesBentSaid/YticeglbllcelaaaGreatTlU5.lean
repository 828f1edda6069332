import Derived.Test.YticeglbllcelaaaGreatTlU4
set_option linter.unusedVariables false
namespace Go.TL
theorem kr{p:Prop}(h:p:=by kernel_rfl):p:=h
def cI(z:Int):CV:=.lit (.int .i64 z)
def cB(z:Bool):CV:=.lit (.bool z)
def cS(z:ByteArray):CV:=.lit (.string z)
def cL{α:Type}(n:Nat)(xs:List α)(row:α→List CV):CV:=.sl true n (xs.map row)
def cF{α:Type}(n:Nat)(xs:List α)(row:α→List CV):CV:=.sl false n (zQ (xs.map row))
def sI(t:Nat)(z:Int):Nat×SV:=(t,.val false [.lit (.int .i64 z)])
def sB(t:Nat)(z:Bool):Nat×SV:=(t,.val false [.lit (.bool z)])
def sC(t:Nat)(c:CV):Nat×SV:=(t,.val false [c])
def sV(t:Nat)(cs:List CV):Nat×SV:=(t,.val true cs)
def sA(t k m o:Nat):Nat×SV:=(t,.adr (.box k) [(0,0)] m o)
def sR(t k m o n:Nat)(ag:Bool):Nat×SV:=(t,.ref (.box k) [(0,0)] m o n ag)
def St.onlyM(m b:Nat)(st:St):St:= { st with s:=st.s.filter fun x=>Nat.testBit m x.1,b:=st.b.filter fun x=>Nat.testBit b x.1 }
theorem zDF(m b:Nat)(st:St):(st.onlyM m b).sub st:=
 ⟨rfl,rfl,fun t sv h=>(List.mem_filter.1 h).1,fun k cs h=>(List.mem_filter.1 h).1⟩
theorem zH4{P:Program}{cx:Cx}{ops:Array Oper}{i:Nat}{st:St}{K:St→Prop}(m b:Nat)(h:Nat.ble ops.size i=true)(hk:K (st.onlyM m b)):LAt P cx ops i st K:=by
 unfold LAt
 rw[List.drop_eq_nil_of_le (by simpa using Nat.le_of_ble_eq_true h)]
 exact zAZ.sub (zDF m b st) (zAZ.nil hk)
end Go.TL
