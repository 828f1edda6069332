import Derived.Test.YticeglbllcelaaaGreatTlAny2
set_option linter.unusedVariables false
namespace Go.TL
theorem Tr.to{P:Program}{cx:Cx}{c:Code}{st:St}{Q:Exit→St→Prop}(st':St)(h:st=st')(hk:Tr P cx c st' Q):Tr P cx c st Q:=by subst h;exact hk
def zGl(T:Nat→Option TI)(ops:Array Oper)(i n:Nat)(st:St):St:=match zKU T ops i n st with
 |some s=>s
 |none=>⟨0,0,[],[]⟩
theorem zH1{P:Program}{cx:Cx}{T:Nat→Option TI}(hT:TOk P T){ops:Array Oper}{i:Nat}{st:St}{K:St→Prop}(n:Nat)(h:(zKU T ops i n st).isSome=true)(hk:LAt P cx ops (i+n) (zGl T ops i n st) K):LAt P cx ops i st K:=by
 obtain⟨st',hs⟩:=Option.isSome_iff_exists.1 h
 unfold zGl at hk
 rw[hs]at hk
 exact LAt.run hT n st' hs hk
def zJI(T:Nat→Option TI)(ms:List Mode)(as:List Operand)(ats:List TypeId)(d:Option Nat)(rets:List Ret)(st:St):St:=match zJR T ms as ats d rets st with
 |some x=>x.2.2
 |none=>st
theorem zN3{P:Program}{cx:Cx}{T:Nat→Option TI}(hT:TOk P T){ops:Array Oper}{i:Nat}{st:St}{K:St→Prop}(ms:List Mode){f:FuncId}{av:Array Operand}{ats:Array TypeId}{d:Option Nat}{ty:TypeId}{g:Option (Nat×Bool)}
  (hop:opAt ops i=some (.call { callee:=.value (.func f),args:=av,argTypes:=ats },d,ty,g)) (hg:gdT ops st g=true) (hd:(match d with|some d=>Zx st d|none=>true)=true) {ps:List JX} (brs:List zn) {rets:List Ret}
  (hL:zb P f ps rets []) (hq:(zJR T ms av.toList ats.toList d rets st).map (fun x=>(x.1,x.2.1))=some (ps,brs)) (hmine:brs=[]∨∀r∈rets,r.mine) (hk:LAt P cx ops (i+1) (zJI T ms av.toList ats.toList d rets st) K):LAt P cx ops i st K:=by
 cases hc:zJR T ms av.toList ats.toList d rets st with
 |none=>rw[hc]at hq;cases hq
 |some x=>
  obtain⟨ps',brs',st3⟩:=x
  rw[hc]at hq
  cases hq
  unfold zJI at hk
  rw[hc]at hk
  exact zRH hT ms hop hg hd _ st3 st3 hL hc hmine rfl hk
def zBC(T:Nat→Option TI)(st:St)(t:TypeId)(x:Operand):St:=match Yp T st t x with
 |some tk=>tk.st
 |none=>st
theorem zP0{T:Nat→Option TI}{st:St}{t:TypeId}{x:Operand}{ag:Bool}{cs:List CV}(h:(Yp T st t x).map (fun tk=>(tk.ag,tk.cs))=some (ag,cs)):Yp T st t x=some ⟨ag,cs,zBC T st t x⟩:=by
 unfold zBC
 cases hc:Yp T st t x with
 |none=>rw[hc]at h;cases h
 |some tk=>rw[hc]at h;cases h;rfl
theorem zY{P:Program}{cx:Cx}{T:Nat→Option TI}{ops:Array Oper}{n:Nat}{st:St}{K:St→Prop}{ty:TypeId}{x:Operand}{d:Nat}{g:Option (Nat×Bool)}(ag:Bool)(cs:List CV)
  (hop:opAt ops n=some (.assign x,some d,ty,g)) (hg:gdT ops st g=true) (hd:Zx st d=true) (hx:(Yp T st ty x).map (fun tk=>(tk.ag,tk.cs))=some (ag,cs)) (hd':Zx (zBC T st ty x) d=true) (hk:LAt P cx ops (n+1) ((zBC T st ty x).put d (.val ag cs)) K):LAt P cx ops n st K:=
 zRK ⟨ag,cs,zBC T st ty x⟩ _ hop hg hd (zP0 hx) hd' rfl hk
theorem qO{P:Program}{cx:Cx}{T:Nat→Option TI}(hT:TOk P T){ops:Array Oper}{n:Nat}{st:St}{K:St→Prop}{t ty e:TypeId}{x y:Operand}{d:Nat}{g:Option (Nat×Bool)}(ie:TI){α:Type}(row:α→List CV)(X Y:List α)
  (hop:opAt ops n=some (.call { callee:=.builtin .append,args:= #[x,y],argTypes:= #[t,t] },some d,ty,g)) (hg:gdT ops st g=true) (hd:Zx st d=true) (ht:zCO T t=some e) (he:T e=some ie) (hpos:Nat.ble 1 ie.size=true) (hby:Nat.ble ie.bytes 524288=true)
  (hx:(Yp T st t x).map (fun tk=>(tk.ag,tk.cs))=some (false,[.sl true ie.size (X.map row)])) (hy:(Yp T (zBC T st t x) t y).map (fun tk=>(tk.ag,tk.cs))=some (false,[.sl true ie.size (Y.map row)])) (hd':Zx (zBC T (zBC T st t x) t y) d=true)
  (hG:decide (X.length+Y.length≤268435456)=true) (hk:LAt P cx ops (n+1) ((zBC T (zBC T st t x) t y).put d (.val false [.sl true ie.size ((X++Y).map row)])) K):LAt P cx ops n st K:=
 zRE hT ie _ _ row X Y _ hop hg hd ht he hpos hby (zP0 hx) rfl rfl (zP0 hy) rfl rfl hd' hG rfl hk
theorem zN1{P:Program}{cx:Cx}{T:Nat→Option TI}(hT:TOk P T){ops:Array Oper}{n:Nat}{st:St}{K:St→Prop}{t ty e:TypeId}{x y:Operand}{d:Nat}{g:Option (Nat×Bool)}(ie:TI){α:Type}(row:α→List CV)(X Y:List α)(s:zFp)
  (hop:opAt ops n=some (.call { callee:=.builtin .append,args:= #[x,y],argTypes:= #[t,t] },some d,ty,g)) (hg:gdT ops st g=true) (hd:Zx st d=true) (ht:zCO T t=some e) (he:T e=some ie) (hpos:Nat.ble 1 ie.size=true) (hby:Nat.ble ie.bytes 524288=true)
  (hx:(Yp T st t x).map (fun tk=>(tk.ag,tk.cs))=some (false,[.sl true ie.size (X.map row)])) (hd':Zx (zBC T st t x) d=true) (hy:slS (zBC T st t x) y=some s) (hsz:Nat.beq s.sz ie.size=true) (hes:s.es=Y.map row∨s.es=zQ (Y.map row)) (hflat:∀v,zZ (row v)=true) (hfrz:∀v,qh (row v)=row v)
  (hG:decide (X.length+Y.length≤268435456)=true) (hk:LAt P cx ops (n+1) ((zBC T st t x).put d (.val false [.sl true ie.size ((X++Y).map row)])) K):LAt P cx ops n st K:=by
 have hG:=of_decide_eq_true hG
 have hby:=Nat.le_of_ble_eq_true hby
 have he':s.es=Y.map row:=by
  rcases hes with h|h
  ·exact h
  ·rw[h,CV.frzEs_eq,List.map_map]
   exact List.map_congr_left fun v _=>hfrz v
 have hl:s.es.length=Y.length:=by rw[he',List.length_map]
 refine zR5 hT ie _ (X.map row) ((X++Y).map row) s _ hop hg hd ht he hpos (zP0 hx) rfl rfl hd' hy (Nat.eq_of_beq_eq_true hsz) (fun e he=>?_) (by simp only[List.length_map,hl,maxLen];omega) ?_ (by rw[he'];exact zQM X Y row) rfl hk
 ·rw[he']at he
  obtain⟨v,_,rfl⟩:=List.mem_map.1 he
  exact hflat v
 ·simp only[List.length_map,hl]
  calc (X.length+Y.length)*ie.bytes≤268435456*524288:=Nat.mul_le_mul hG hby
   _≤140737488355328:=by decide
def zOY(T:Nat→Option TI)(ops:Array Oper)(l:List (Nat×List Nat))(ps:List Pin)(E:List Nat)(st:St):St:=match zME T ops l ps E st with
 |some x=>x.2.2
 |none=>⟨0,0,[],[]⟩
theorem zSz{P:Program}{cx:Cx}{T:Nat→Option TI}(hT:TOk P T){ops:Array Oper}{K:St→Prop}{m:Nat}{ps:List Pin}{E:List Nat}{st:St}(l:List (Nat×List Nat))(n:Nat)(ps':List Pin)(E':List Nat)(hn:n+l.length=m)(h:(zME T ops l ps E st).map (fun x=>(x.1,x.2.1))=some (ps',E'))
  (hk:∀cx',AT P cx' ops ps' n E' (zOY T ops l ps E st) K):AT P cx ops ps m E st K:=by
 unfold zOY at hk
 cases hc:zME T ops l ps E st with
 |none=>rw[hc]at h;cases h
 |some x=>
  obtain⟨ps1,E1,st1⟩:=x
  rw[hc]at h hk
  cases h
  exact AT.run hT l n _ _ st1 hn hc hk
theorem zt{P:Program}{cx:Cx}{c:Code}{st:St}{Q:Exit→St→Prop}{ι:Type}(S:ι→St)(I:ι→Prop)(h1:Tr P cx c st (zTC (fun st'=>∃i,I i∧(S i).sub st') Q))(h2:∀i,I i→Q .normal (S i)):Tr P cx c st Q:=fun a w Z ω hR=>
 wp_mono (h1 a w Z ω hR) fun e a' w' ⟨st',Z',ω',hq,hR'⟩=>by
  cases e with
  |normal=>
   obtain⟨i,hi,hs⟩:=hq
   exact⟨S i,Z',ω',h2 i hi,hR'.sub hs⟩
  |_=>exact⟨st',Z',ω',hq,hR'⟩
end Go.TL
