import Derived.Test.YticeglbllcelaaaGreatTlRule
import Derived.OrdersHeld
set_option linter.unusedVariables false
namespace Go.TL
def zEN(P:Program)(cx:Cx)(o:Oper)(st:St):Prop:=∀a w Z ω,Rel cx st a w Z ω→∃v,∀w',(execOp a.eval o).run P w'=.ok (.value v) w'
def OpY(P:Program)(cx:Cx)(o:Oper)(st st':St):Prop:=
 ∀a w Z ω,Rel cx st a w Z ω→∃v Z' ω',(∀w',(execOp a.eval o).run P w'=.ok (.value v) w')∧Rel cx st' (a.put o.dst v) w Z' ω'
theorem OpY.of{P:Program}{cx:Cx}{o:Oper}{st st':St}(h:zCN P cx o st st')(hp:zEN P cx o st):OpY P cx o st st':=by
 intro a w Z ω hR
 obtain⟨v0,h0⟩:=hp a w Z ω hR
 obtain⟨v,w',Z',ω',h1,h2⟩:=h a w Z ω hR
 have hw:=h0 w
 rcases h1 with h1|⟨h1,_⟩
 ·rw[hw]at h1
  cases h1
  exact⟨v0,Z',ω',h0,h2⟩
 ·rw[hw]at h1;cases h1
theorem zJ2{P:Program}{cx:Cx}{st:St}{o:Oper}{x:Operand}(ho:o.op=.move x∨o.op=.assign x):zEN P cx o st:=fun a w Z ω h=>
 ⟨a.eval x,fun w'=>by rcases ho with ho|ho<;>simp[execOp,ho]⟩
theorem zRr{P:Program}{cx:Cx}{T:Nat→Option TI}(hT:TOk P T){st:St}{o:Oper}{op:BinOp}{t ty:TypeId}{x y:Operand}{vx vy v:Value}{φ:Prop}(ho:o.op=.binOp op t x y ty)(hx:Ql st x=some vx)(hy:Ql st y=some vy)
  (hb:zSE (isBool T t) op vx vy=some (φ,v)) (hφ:φ):zEN P cx o st:=fun a w Z ω h=>by
 have h1:=(qY h hx).1
 have h2:=(qY h hy).1
 refine⟨v,fun w'=>?_⟩
 have h3:=(zIT (P:=P) hT hb hφ x y w').1
 simp only[execOp,ho,h1,h2]
 simp only[Sem.run_bind]at h3⊢
 rw[h3]
 rfl
theorem zSw{P:Program}{cx:Cx}{st:St}{o:Oper}{op:UnOp}{t:TypeId}{x:Operand}{vx v:Value}(ho:o.op=.unOp op t x)(hx:Ql st x=some vx)(hb:unV op vx=some v):zEN P cx o st:=fun a w Z ω h=>by
 have h1:=(qY h hx).1
 refine⟨v,fun w'=>?_⟩
 unfold unV at hb
 split at hb<;>first|(split at hb<;>cases hb<;>simp[execOp,ho,h1,Op.unary,Op.intArith])|cases hb
theorem zNa{P:Program}{cx:Cx}{st:St}{o:Oper}{c x y:Operand}{b:Bool}{vx vy:Value}(ho:o.op=.pick c x y)(hc:Ql st c=some (.bool b))(hx:b=true→Ql st x=some vx)(hy:b=false→Ql st y=some vy):
  zEN P cx o st:=fun a w Z ω h=>by
 have h1:=(qY h hc).1
 cases b with
 |true=>have h2:=(qY h (hx rfl)).1;exact⟨vx,fun w'=>by simp[execOp,ho,h1,h2,asBool]⟩
 |false=>have h2:=(qY h (hy rfl)).1;exact⟨vy,fun w'=>by simp[execOp,ho,h1,h2,asBool]⟩
theorem zPr{P:Program}{cx:Cx}{T:Nat→Option TI}(hT:TOk P T){st:St}{o:Oper}{t:TypeId}{x:Nat}{f off:Nat}{r:zn}{q:List (Nat×Nat)}{m k:Nat}
  (ho:o.op=.fieldAddr t (.tmp x) f) (ht:zQU T t f=some off) (hx:lk st.s x=some (.adr r q m k)):zEN P cx o st:=fun a w Z ω h=>by
 obtain⟨b,h1,h2⟩:=h.hs x _ (zw hx)
 refine⟨.pointer (some ⟨b,ZH q*m+(k+off),none⟩),fun w'=>?_⟩
 have:=zGc hT ht b (ZH q*m+k) w' (a.tmps.getD x undef) h2
 have he:a.eval (.tmp x)=a.tmps.getD x undef:=rfl
 simp only[execOp,ho,he,Sem.run_bind,this,Result.andThen_ok]
 simp[Nat.add_assoc]
theorem zOl{P:Program}{cx:Cx}{T:Nat→Option TI}(hT:TOk P T){st:St}{o:Oper}{t:TypeId}{x:Nat}{f off:Nat}{cs:List CV}
  (ho:o.op=.fieldAddr t (.tmp x) f) (ht:zQU T t f=some off) (hx:lk st.s x=some (.fad cs)):zEN P cx o st:=fun a w Z ω h=>by
 obtain⟨b,o',h1,h2,h3,h4⟩:=zHt h hx
 refine⟨.pointer (some ⟨b,o'+off,none⟩),fun w'=>?_⟩
 have:=zGc hT ht b o' w' (a.tmps.getD x undef) h1
 have he:a.eval (.tmp x)=a.tmps.getD x undef:=rfl
 simp only[execOp,ho,he,Sem.run_bind,this,Result.andThen_ok]
 rfl
theorem zOm{P:Program}{cx:Cx}{T:Nat→Option TI}(hT:TOk P T){st:St}{o:Oper}{t et:TypeId}{x y:Operand}{s:zFp}{ie:TI}{k:IntKind}{i:Int}{e:List CV}
  (ho:o.op=.indexAddr t x y) (ht:zCO T t=some et) (he:T et=some ie) (hx:slS st x=some s) (hy:Ql st y=some (.int k i)) (hown:s.own=false) (hi:IsE s.es i e):zEN P cx o st:=fun a w Z ω h=>by
 have hR:=zCc h hx
 have hv:=(qY h hy).1
 rw[hown]at hR
 have hlt:=hi.lt
 have hes:s.es≠ []:=fun h0=>by rw[h0]at hlt;simp at hlt
 obtain⟨b,off,cap,us,hev,_⟩:=hR.fro_inv hes
 refine⟨.pointer (some ⟨b,off+i.toNat*ie.size,none⟩),fun w'=>?_⟩
 have hrun:=run_indexAt hT ht he b off s.es.length cap i k w' hi.1 (by have:=hi.1;omega)
 simp only[execOp,ho,hev,hv,Sem.run_bind,hrun,Result.andThen_ok]
 rfl
theorem zOn{P:Program}{cx:Cx}{T:Nat→Option TI}(hT:TOk P T){st:St}{o:Oper}{t et:TypeId}{x y:Operand}{s:zFp}{ie:TI}{k:IntKind}{i:Int}{e:List CV}
  (ho:o.op=.indexAddr t x y) (ht:zCO T t=some et) (he:T et=some ie) (hx:slS st x=some s) (hy:Ql st y=some (.int k i)) (hown:s.own=true) (hi:IsE s.es i e):zEN P cx o st:=fun a w Z ω h=>by
 have hR:=zCc h hx
 have hv:=(qY h hy).1
 rw[hown]at hR
 have hlt:=hi.lt
 have hes:s.es≠ []:=fun h0=>by rw[h0]at hlt;simp at hlt
 obtain⟨b,cap,us,cur,T',hev,hω,_⟩:=hR.own_inv hes
 refine⟨.pointer (some ⟨b,0+i.toNat*ie.size,none⟩),fun w'=>?_⟩
 have hrun:=run_indexAt hT ht he b 0 s.es.length cap i k w' hi.1 (by have:=hi.1;omega)
 simp only[execOp,ho,hev,hv,Sem.run_bind,hrun,Result.andThen_ok]
 rfl
theorem zRs{P:Program}{cx:Cx}{T:Nat→Option TI}(hT:TOk P T){st:St}{o:Oper}{t e:TypeId}{x:Operand}{s:zFp}
  (ho:o.op=.call { callee:=.builtin .len,args:= #[x],argTypes:= #[t] }) (ht:zCO T t=some e) (hx:slS st x=some s):zEN P cx o st:=fun a w Z ω h=>by
 obtain⟨ad,cap,hv,_⟩:=(zCc h hx).slice
 have hu:=zCR hT ht
 refine⟨.int .i64 s.es.length,fun w'=>?_⟩
 simp[execOp,ho,resolve,invoke,builtin,Builtin.len_,hv,run_underlying hu,goInt]
theorem zKN{P:Program}{o:Oper}{t:TypeId}{x:Nat}{a:Act}{A:Addr}{v:Value}(ho:o.op=.load t (.tmp x))(hx:a.tmps.getD x undef=.pointer (some A)){w:World}(hw:(loadVar t A).run P w=.ok v w):(execOp a.eval o).run P w=.ok (.value v) w:=by
 have he:a.eval (.tmp x)=.pointer (some A):=hx
 simp[execOp,ho,Instr.loadAt,Instr.sureAddr,he,hw]
theorem zGZ{ops:Array Oper}{cx st a w Z ω}(h:Rel cx st a w Z ω){o:Oper}(hg:gdT ops st o.guard=true):Region.wanted o (yielded ops a.tmps)=true:=by
 unfold Region.wanted
 cases hgg:o.guard with
 |none=>rfl
 | some jw =>
  obtain⟨j,want⟩:=jw
  rw[hgg]at hg
  simp only[gdT]at hg
  split at hg
  ·rename_i hb
   have:=zHu h hb
   simp[this,hg]
  ·rename_i hb
   have:=zHu h hb
   simp[this]
   simpa using hg
  ·cases hg
theorem zP1{ops:Array Oper}{cx st a w Z ω}(h:Rel cx st a w Z ω){o:Oper}{j:Nat}{want:Bool}(hg:o.guard=some (j,want))(hb:gdS ops st j=some (!want)∨gdN ops st j=true):Region.wanted o (yielded ops a.tmps)=false:=by
 unfold Region.wanted
 rw[hg]
 rcases hb with hb|hb
 ·have:=zHu h hb
  cases want<;>simp[this]
 ·have:=zNQ h hb
  simp[this]
theorem zOK{ag:Bool}{v v':Value}(h:shp ag v)(h':shp ag v')(hc:v.cells.toList=v'.cells.toList):v=v':=by
 cases ag with
 |true=>
  obtain⟨cs,rfl⟩:=h
  obtain⟨cs',rfl⟩:=h'
  have:cs=cs':=by have hc':cs.toList=cs'.toList:=hc;exact Array.ext' hc'
  rw[this]
 |false=>
  rw[ZC h,ZC h']at hc
  exact(List.cons.inj hc).1
theorem zRu{P:Program}{cx:Cx}{T:Nat→Option TI}(hT:TOk P T){st a w Z ω}(h:Rel cx st a w Z ω){x d t:Nat}{i:TI}{r:zn}{q:List (Nat×Nat)}{m o:Nat}{A:Addr}{v:Value}(ht:T t=some i)(hq:q≠ [])
  (hx:lk st.s x=some (.adr r q m o)) (hd:lk st.s d=some (.ref r q m o i.size i.ag)) {c:List CV} (hc:zMB st r q m o i.size=some c) (hA:a.tmps.getD x undef=.pointer (some A)) (hv:a.tmps.getD d undef=v):(loadVar t A).run P w=.ok v w:=by
 obtain⟨b,h1,h2⟩:=h.hs x _ (zw hx)
 obtain⟨g1,g2,g3⟩:=h.hs d _ (zw hd)
 rw[hv]at g1 g2 g3
 rw[hA]at h2
 cases h2
 have hcell:∀(j:Nat) u,v.cells.toList[j]? =some u→w.cell? ⟨b,ZH q*m+o+j,none⟩=some u:=by
  intro j u hu
  have:=g3 j u (by simpa using hu)
  cases q with
  |nil=>exact absurd rfl hq
  |cons y q=>
   simp only[CellIs]at this
   obtain⟨b',cur,T',k1,k2,k3⟩:=this
   have:=h.inv.inj _ _ _ k1 h1
   subst this
   rw[zDH k2,Nat.add_assoc]
   exact k3
 have hone:∀u∈v.cells.toList,u.oneCell'=true:=by
  have hR:=(zGj h hd hc).2.1
  rw[hv]at hR
  intro u hu
  obtain⟨j,hj⟩:=List.mem_iff_getElem?.1 hu
  have hjl:j<c.length:=by rw[←hR.1];exact(List.getElem?_eq_some_iff.1 hj).1
  exact(hR.2 j c[j] u (List.getElem?_eq_getElem hjl) hj).one
 obtain⟨v',k1,k2,k3⟩:=zCU (hT t i ht) w b (ZH q*m+o) v.cells.toList (by simpa using g2) hcell hone
 rw[k1,zOK g1 k3 k2.symm]
end Go.TL
