import Derived.Test.YticeglbllcelaaaGreatTlZ
import Derived.Carry
set_option linter.unusedVariables false
namespace Go.TL
open Go.WideShapes
theorem zb.below{P:Program}{f:FuncId}{ps:List JX}{b:Bool}(h:zb P f ps [.val false [.lit (.bool b)]] []){vals:Array Value}{w:World}(hs:vals.size=ps.length)
  (ha:∀(i:Nat) arg,ps[i]? =some arg→∃v ag cs,arg=.val ag cs∧vals[i]? =some v∧shp ag v∧zZ cs=true∧zOB w (fun b=>b<w.heap.size) v.cells.toList cs):
  Calls P f vals w fun e w'=>e=.returned (.bool b)∧Go.RowKit.Below w.heap.size w w':=by
 have hI:Inv ⟨w,fun b=>b<w.heap.size,fun _=>none,vals⟩ w (fun b=>b<w.heap.size) (fun _=>none):=
  { os:=rfl,tape:=rfl,output:=rfl,size:=Nat.le_refl _,keep:=fun _ _ _=>rfl,zsub:=fun _ h=>h,zold:=fun _ h _ _=>h,wold:=fun _ _ h=>(by cases h),disj:=fun _ _ _ h=>(by cases h),inj:=fun _ _ _ h=>(by cases h),lt:=fun _ _ h=>(by cases h),zlt:=fun _ h=>h }
 refine(h.2 w _ _ vals hI hs fun i arg hi=>?_).mono fun e w' ⟨v,Z',ω',e1,e2,e3,_⟩=>?_
 ·obtain⟨v,ag,cs,rfl,h1,h2,h3,h4⟩:=ha i arg hi
  exact⟨v,h1,h2,h3,h4 _ _⟩
 ·subst e1
  obtain⟨h1,h2⟩:=e3
  have h1:v.oneCell'=true:=h1
  rw[ZC h1]at h2
  have:=h2.lit_inv.1
  simp only[List.cons.injEq,and_true]at this
  subst this
  exact⟨rfl,e2.os,e2.tape,e2.output,e2.size,fun k hk=>e2.keep k hk rfl⟩
def zUn(P:Program)(t:TypeId):Option Bool:=match P.underlying t with
 |some (.struct _)=>some true
 |some (.int _)|some .bool|some .string|some (.slice _)=>some false
 |_=>none
theorem zPj{P:Program}{w:World}{r:Reach}{base:Nat}{t:TypeId}{v:Value}{ag:Bool}(ha:zUn P t=some ag)(h:Value.okWide P w r base t v):shp ag v:=by
 unfold zUn at ha
 split at ha
 ·rename_i fs hu
  cases ha
  obtain⟨cs,h1,_⟩:=okWide_struct hu h
  exact⟨cs,h1⟩
 ·rename_i k hu
  cases ha
  obtain⟨n,rfl⟩:=okWide_int hu h
  exact rfl
 ·rename_i hu
  cases ha
  obtain⟨n,rfl⟩:=okWide_bool hu h
  exact rfl
 ·rename_i hu
  cases ha
  obtain⟨n,rfl⟩:=okWide_string hu h
  exact rfl
 ·rename_i e hu
  cases ha
  simp only[Value.okWide,hu,Cell.okWide]at h
  cases v<;>first|rfl|simp_all [Cell.ok]
 ·cases ha
theorem zh{l:Lf}{ls:List Lf}{cs:List CV}(h:zDt (l::ls) cs):∃c r,cs=c::r∧zG1 l c∧zDt ls r:=by
 cases cs with
 |nil=>exact(zDS h).elim
 |cons c r=>rw[zAl]at h;exact⟨c,r,rfl,h⟩
theorem JK{cs:List CV}(h:zDt [] cs):cs=[]:=by
 cases cs with
 |nil=>rfl
 |cons c r=>exact(zDT h).elim
end Go.TL
