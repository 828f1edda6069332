import Derived.Test.YticeglbllcelaaaGreatTlU11
set_option linter.unusedVariables false
namespace Go.TL
open Go
def sl:List Code→Code→Code
 |[],c=>c
 |x::xs,c=>.seq x (sl xs c)
abbrev cn(t:Nat)(x y:Code):Code:=.cond (.tmp t) x y
variable {P : Program} {cx : Cx} {T : Nat → Option TI} {ops : Array Oper} {st : St} {c : Code} {Q : Exit → St → Prop} {K : St → Prop} {i id : Nat}
theorem cW [hT : TC P T] {f : FuncId} {fn : Func} (hf : P.funcs[f]? = some fn) (b : (Nat → Code) → (Nat → Code) → Code) (rs : List ResultVar) {args : List JX} {rets : List Ret} (h : ∀ cx, Tr P cx (b (Rg fn) (Rd fn)) (zLC fn.ntmps 0 args) (zT3 T rs args [] (zLG rets) [] [])) (hname : (fn.name == "runtime.NumGoroutine") = false := by rfl) (hb : fn.body = some (b (Rg fn) (Rd fn)) := by kernel_rfl)
  (hn:Nat.ble args.length fn.ntmps=true:=by kernel_rfl) (hrs:fn.results.toList=rs:=by rfl) (hv:(zLG rets).map (fun x=>Ret.val x.1 x.2)=rets:=by rfl):zb P f args rets []:=cA hf _ rs h hname hb hn hrs hv
theorem fJ{α:Type}{v r:α}{rs:List ResultVar}{args:List JX}{rets:List (Bool×List CV)}(rets':List (Bool×List CV))(H:some v=some r)(h:zSJ T rs st=some (rets'.map some):=by kernel_rfl)(hl:rets'.length=rs.length:=by rfl)(he:v=r→rets'=rets:=by rintro rfl;rfl):Fin T rs args [] rets [] [] st:=fO rets' h hl (he (si H))
theorem fF{α:Type}{v r:α}{rs:List ResultVar}{args:List JX}{rets:List (Bool×List CV)}(H:some v=some r)(h:zSJ T rs st=some ([(false,[cB false])].map some):=by kernel_rfl)(hl:1=rs.length:=by rfl)(he:v=r→ [(false,[cB false])]=rets:=by rintro rfl;rfl):Fin T rs args [] rets [] [] st:=fO _ h hl (he (si H))
theorem fT{α:Type}{v r:α}{rs:List ResultVar}{args:List JX}{rets:List (Bool×List CV)}(H:some v=some r)(h:zSJ T rs st=some ([(false,[cB true])].map some):=by kernel_rfl)(hl:1=rs.length:=by rfl)(he:v=r→ [(false,[cB true])]=rets:=by rintro rfl;rfl):Fin T rs args [] rets [] [] st:=fO _ h hl (he (si H))
theorem aJ{α:Type}{a:α}{p q:Prop}(h:p):(a=a→p)∧(a≠a→q):=⟨fun _=>h,fun h=>absurd rfl h⟩
end Go.TL
