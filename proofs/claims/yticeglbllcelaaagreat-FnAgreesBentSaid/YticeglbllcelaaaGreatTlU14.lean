import Derived.Test.YticeglbllcelaaaGreatTlU13
set_option linter.unusedVariables false
namespace Go.TL
open Go
variable {P : Program} {cx : Cx} {T : Nat → Option TI} {ops : Array Oper} {st : St} {c : Code} {Q : Exit → St → Prop} {K : St → Prop} {i id : Nat}
theorem bE{α β:Type}{o:Option α}{f:α→Option β}{b:β}{p:Prop}(h:o.bind f=some b)(k:∀a,o=some a→f a=some b→p):p:=by
 obtain⟨a,h1,h2⟩:=bind_some h
 exact k a h1 h2
theorem gE{α:Type}{b:Bool}{x:Option α}{y:α}{p:Prop}(h:(bif b then x else none)=some y)(k:b=true→x=some y→p):p:=by
 obtain⟨h1,h2⟩:=zL0 h
 exact k h1 h2
abbrev fR(x:List CV):List CV:=qh x
theorem vL [h:TC P T] (ms:List Mode) {f:FuncId} {ps:List JX} {rets:List Ret} {outs:List (Nat×List CV)} (hL:zb P f ps rets outs) (hk:LAt P cx ops (i+1) (zG4 T ms (zDG ops i).toList (zD4 ops i).toList (opD ops i) rets outs st) K)
  (hop:opAt ops i=some (.call { callee:=.value (.func f),args:=zDG ops i,argTypes:=zD4 ops i },opD ops i,opY ops i,opG ops i):=by kernel_rfl) (hg:gdT ops st (opG ops i)=true:=by kernel_rfl) (hd:dB st (opD ops i)=true:=by kernel_rfl)
  (hq:(zGL T ms (zDG ops i).toList (zD4 ops i).toList (opD ops i) rets outs st).map (fun x=>(x.1,x.2.1))=some (ps,[]):=by kernel_rfl):LAt P cx ops i st K:=by
 have key:∀(av:Array Operand) (ats:Array TypeId) (d:Option Nat) (ty:TypeId) (g:Option (Nat×Bool)),opAt ops i=some (.call { callee:=.value (.func f),args:=av,argTypes:=ats },d,ty,g)→gdT ops st g=true→dB st d=true→
   (zGL T ms av.toList ats.toList d rets outs st).map (fun x=>(x.1,x.2.1))=some (ps,[])→LAt P cx ops (i+1) (zG4 T ms av.toList ats.toList d rets outs st) K→LAt P cx ops i st K:=fun av ats d ty g hop hg hd hq hk=>by
  cases d with
  |none=>exact zN2 h.ok ms hop hg rfl [] hL hq (.inl rfl) hk
  |some d=>exact zN2 h.ok ms hop hg hd [] hL hq (.inl rfl) hk
 exact key _ _ _ _ _ hop hg hd hq hk
theorem fY{α:Type}{v r:α}{rs:List ResultVar}{args:List JX}{st:St}{rets:List (Bool×List CV)}{pouts:List (Nat×List CV)}(rets':List (Bool×List CV))(pouts':List (Nat×List CV))(H:some v=some r)
  (h:(zQT T rs [] st).map (fun x=>x.1)=some ((rets'++List.zip ([]:List Bool) ([]:List (List CV))).map some):=by kernel_rfl) (hp1:(pouts'.all fun x=>Nat.blt x.1 st.lo&&zSX args x.1)=true:=by kernel_rfl) (hp2:(zQT T rs [] st).map (fun x=>pouts'.map fun y=>lk x.2.s y.1)=some (pouts'.map fun x=>some (.adr (.box x.1) [(0,0)] x.2.length 0)):=by kernel_rfl)
  (hp3:(zQT T rs [] st).map (fun x=>pouts'.map fun y=>lk x.2.b y.1)=some (pouts'.map fun x=>some x.2):=by kernel_rfl) (hl:rets'.length=rs.length:=by rfl) (e:v=r→rets'=rets∧pouts'=pouts:=by rintro rfl;exact⟨rfl,rfl⟩):Fin T rs args [] rets [] pouts st:=
 zS0 rets rets' [] [] [] pouts pouts' h hl rfl rfl rfl hp1 hp2 hp3 (e (si H)).1 rfl (e (si H)).2
end Go.TL
