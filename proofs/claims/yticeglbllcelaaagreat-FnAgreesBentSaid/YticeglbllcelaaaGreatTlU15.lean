import Derived.Test.YticeglbllcelaaaGreatTlU14
set_option linter.unusedVariables false
namespace Go.TL
open Go
variable {P : Program} {cx : Cx} {T : Nat → Option TI} {ops : Array Oper} {st : St} {c : Code} {Q : Exit → St → Prop} {K : St → Prop} {i id : Nat} {x v : Bool}
def zUr(ds:List Nat)(v:Bool):List (Nat×SV)→List (Nat×SV)
 |[]=>[]
 |x::r=>(bif ds.any (Nat.beq x.1)then(x.1,.val false [.lit (.bool v)])else x)::zUr ds v r
def St.rep(st:St)(ds:List Nat)(v:Bool):St:= { st with s:=zUr ds v st.s }
theorem qL(m b:Nat)(ds:List Nat)(h:x=v)(hk:LAt P cx ops i ((st.onlyM m b).rep ds v) K)(e:(st.onlyM m b).rep ds x=st.onlyM m b:=by kernel_rfl):LAt P cx ops i st K:=by
 subst h;rw[e]at hk;exact sL m b _ hk rfl
theorem qA(m b:Nat)(ds:List Nat)(h:x=v){ps:List Pin}{n:Nat}{E:List Nat}(hk:AT P cx ops ps n E ((st.onlyM m b).rep ds v) K)(e:(st.onlyM m b).rep ds x=st.onlyM m b:=by kernel_rfl):AT P cx ops ps n E st K:=by
 subst h;rw[e]at hk;exact sA_ m b _ hk rfl
theorem qT(ds:List Nat)(h:x=v)(hk:Tr P cx c (st.rep ds v) Q)(e:st.rep ds x=st:=by kernel_rfl):Tr P cx c st Q:=by
 subst h;rw[e]at hk;exact hk
theorem qB{ι:Type}{S:ι→St}{I:ι→Prop}(m b:Nat)(ds:List Nat)(h:x=v)(hk:∃i,I i∧(S i).sub ((st.onlyM m b).rep ds v))(e:(st.onlyM m b).rep ds x=st.onlyM m b:=by kernel_rfl):∃i,I i∧(S i).sub st:=by
 subst h;rw[e]at hk;exact sB' m b _ hk rfl
abbrev zl(l:List Nat):List (Nat×List Nat):=l.map fun x=>(x,[])
end Go.TL
