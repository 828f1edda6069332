import Derived.Test.YticeglbllcelaaaGreatTlRow
import Derived.Test.YticeglbllcelaaaGreatTlRule
set_option linter.unusedVariables false
namespace Go.TL
abbrev wI(x:Int):Int:=IntKind.wrap .i64 x
abbrev bO(z:Int):BitVec 64:=BitVec.ofInt (IntKind.bits .i64) z
def zC(n:Int):List CV:=[.lit (.int .i64 n)]
def qC(n:Int):List CV:=[.lit (.int .u8 n)]
def qo(b:Bool):List CV:=[.lit (.bool b)]
def qx(n:Int):Prop:=(Lit.int .i64 n).wf=true
def zP9(n:Int):Prop:=(Lit.int .u8 n).wf=true
def zTe(b:Bool):Prop:=True
def Enc(α:Type)(ls:List Lf)(row:α→List CV)(wf:α→Prop):Prop:=∀cs,zDt ls cs→∃v,cs=qh (row v)∧wf v
def zAt{α:Type}(wf:α→Prop)(xs:List α):Prop:=xs.length≤maxLen∧∀x∈xs,wf x
theorem Enc.list{α:Type}{ls:List Lf}{row:α→List CV}{wf:α→Prop}(h:Enc α ls row wf):∀(es:List (List CV)),(∀r∈es,zDt ls r)→∃xs:List α,es=zQ (xs.map row)∧∀x∈xs,wf x
 |[],_=>⟨[],rfl,fun x hx=>by cases hx⟩
 |r::es,hr=>by
  obtain⟨v,h1,h2⟩:=h r (hr r (by simp))
  obtain⟨xs,h3,h4⟩:=Enc.list h es fun r' h'=>hr r' (by simp[h'])
  refine⟨v::xs,by rw[h1,h3];rfl,fun x hx=>?_⟩
  rcases List.mem_cons.1 hx with e|hx
  ·rw[e];exact h2
  ·exact h4 x hx
theorem Enc.sl{α:Type}{ls:List Lf}{row:α→List CV}{wf:α→Prop}(h:Enc α ls row wf){sz:Nat}{c:CV}(hc:zG1 (.sl sz ls) c):∃xs:List α,c=.sl false sz (zQ (xs.map row))∧zAt wf xs:=by
 simp only[zG1]at hc
 obtain⟨es,rfl,h1,h2⟩:=hc
 obtain⟨xs,rfl,h3⟩:=h.list es h2
 refine⟨xs,rfl,?_,h3⟩
 rwa[CV.frzEs_length,List.length_map]at h1
theorem qX{k:IntKind}{c:CV}(h:zG1 (.int k) c):∃n,c=.lit (.int k n)∧(Lit.int k n).wf=true:=by simpa only[zG1]using h
theorem zGA{c:CV}(h:zG1 .bool c):∃b,c=.lit (.bool b):=by simpa only[zG1]using h
theorem zRe{c:CV}(h:zG1 .str c):∃s:ByteArray,c=.lit (.string s)∧s.size≤maxLen:=by simpa only[zG1]using h
theorem zSI:Enc Int [.int .i64] zC qx:=fun cs h=>by
 obtain⟨c,r,rfl,h1,h2⟩:=zh h
 obtain⟨n,rfl,h3⟩:=qX h1
 obtain rfl:=JK h2
 exact⟨n,rfl,h3⟩
theorem zQQ:Enc Int [.int .u8] qC zP9:=fun cs h=>by
 obtain⟨c,r,rfl,h1,h2⟩:=zh h
 obtain⟨n,rfl,h3⟩:=qX h1
 obtain rfl:=JK h2
 exact⟨n,rfl,h3⟩
theorem zUo:Enc Bool [.bool] qo zTe:=fun cs h=>by
 obtain⟨c,r,rfl,h1,h2⟩:=zh h
 obtain⟨n,rfl⟩:=zGA h1
 obtain rfl:=JK h2
 exact⟨n,rfl,trivial⟩
def idx{α:Type}(xs:List α)(i:Int):Option α:=if 0≤i then xs[i.toNat]? else none
theorem JG{α:Type}{xs:List α}{i:Int}{v:α}{row:α→List CV}(h:idx xs i=some v):IsE (xs.map row) i (row v):=by
 unfold idx at h
 split at h
 ·rename_i h0
  exact⟨h0,by rw[List.getElem?_map,h];rfl⟩
 ·cases h
theorem zCa{α:Type}{xs:List α}{i:Int}{v:α}{row:α→List CV}(h:idx xs i=some v):IsE (zQ (xs.map row)) i (qh (row v)):=by
 obtain⟨h1,h2⟩:=JG (row:=row) h
 exact⟨h1,by rw[CV.frzEs_eq,List.getElem?_map,h2];rfl⟩
theorem zU{α:Type}{xs:List α}{i:Int}{v:α}(h:idx xs i=some v):0≤i∧xs[i.toNat]? =some v:=by
 unfold idx at h
 split at h
 ·rename_i h0;exact⟨h0,h⟩
 ·cases h
theorem zL8{α:Type}(xs:List α)(row:α→List CV):(xs.map row).length=xs.length:=List.length_map ..
theorem zH7{α:Type}(xs:List α)(row:α→List CV):(zQ (xs.map row)).length=xs.length:=by rw[CV.frzEs_length,List.length_map]
theorem zL0{α:Type}{b:Bool}{x:Option α}{y:α}(h:(bif b then x else none)=some y):b=true∧x=some y:=by
 cases b with
 |false=>cases h
 |true=>exact⟨rfl,h⟩
theorem zQg{α:Type}{row:α→List CV}{z:α}{zero:List CV}(k:Nat)(h:row z=zero):List.replicate k zero=(List.replicate k z).map row:=by rw[List.map_replicate,h]
theorem zQM{α:Type}(xs ys:List α)(row:α→List CV):xs.map row++ys.map row=(xs++ys).map row:=(List.map_append ..).symm
theorem zJ0{α:Type}{L:List α}{row:α→List CV}{o j sz:Nat}{v new:α}{f:List CV→List CV}{cs:List CV}(hc:cs[o]? =some (.sl true sz (L.map row)))(h:L[j]? =some v)(hf:f (row v)=row new):
  zC1 f cs [(o,j)]=cs.set o (.sl true sz ((L.set j new).map row)):=by
 have hj:(L.map row)[j]? =some (row v):=by rw[List.getElem?_map,h];rfl
 simp only[zC1,hc,hj,hf,List.map_set]
theorem Qc{α:Type}{L:List α}{row:α→List CV}{o j sz:Nat}{v:α}{cs:List CV}(hc:cs[o]? =some (.sl true sz (L.map row)))(h:L[j]? =some v):zAM cs [(o,j)]=some (row v):=by
 have hj:(L.map row)[j]? =some (row v):=by rw[List.getElem?_map,h];rfl
 simp only[zAM,hc,hj]
theorem zq{α:Type}{L:List α}{row:α→List CV}{o j sz:Nat}{v:α}{cs:List CV}(hc:cs[o]? =some (.sl true sz (L.map row)))(h:L[j]? =some v):zAM [.sl true cs.length [cs]] [(0,0),(o,j)]=some (row v):=by
 have:=Qc hc h
 simp only[zAM,List.getElem?_cons_zero]at this⊢
 exact this
theorem zT{v:Value} :(CV.lit v).mine:=by simp only[CV.mine]
theorem qf{sz:Nat}{es:List (List CV)}(h:zDC es):(CV.sl true sz es).mine:=by simp only[CV.mine];exact⟨trivial,h⟩
theorem zR:z5 []:=by simp only[z5]
theorem zH{c:CV}{cs:List CV}(h1:c.mine)(h2:z5 cs):z5 (c::cs):=by simp only[z5];exact⟨h1,h2⟩
theorem z7{α:Type}{row:α→List CV}(h:∀v,z5 (row v)):∀xs:List α,zDC (xs.map row)
 |[]=>by simp only[List.map_nil,zDC]
 |x::xs=>by simp only[List.map_cons,zDC];exact⟨h x,z7 h xs⟩
theorem zx(n:Int):z5 (zC n):=zH zT zR
theorem zNj(n:Int):z5 (qC n):=zH zT zR
theorem zS:∀r∈([]:List Ret),r.mine:=fun r h=>by cases h
theorem zN{ag:Bool}{cs:List CV}{l:List Ret}(h1:z5 cs)(h2:∀r∈l,r.mine):∀r∈Ret.val ag cs::l,r.mine:=fun r h=>by
 rcases List.mem_cons.1 h with e|h
 ·rw[e];exact h1
 ·exact h2 r h
theorem zRE{P:Program}{cx:Cx}{T:Nat→Option TI}(hT:TOk P T){ops:Array Oper}{n:Nat}{st:St}{K:St→Prop}{t ty e:TypeId}{x y:Operand}{d:Nat}{g:Option (Nat×Bool)}(ie:TI)(tk tk2:Tk){α:Type}(row:α→List CV)(X Y:List α)(st':St)
  (hop:opAt ops n=some (.call { callee:=.builtin .append,args:= #[x,y],argTypes:= #[t,t] },some d,ty,g)) (hg:gdT ops st g=true) (hd:Zx st d=true) (ht:zCO T t=some e) (he:T e=some ie) (hpos:Nat.ble 1 ie.size=true) (hby:Nat.ble ie.bytes 524288=true)
  (hx:Yp T st t x=some tk) (hag:tk.ag=false) (hcs:tk.cs=[.sl true ie.size (X.map row)]) (hy:Yp T tk.st t y=some tk2) (hag2:tk2.ag=false) (hcs2:tk2.cs=[.sl true ie.size (Y.map row)]) (hd':Zx tk2.st d=true)
  (hG:decide (X.length+Y.length≤268435456)=true) (hst:tk2.st.put d (.val false [.sl true ie.size ((X++Y).map row)])=st') (hk:LAt P cx ops (n+1) st' K):LAt P cx ops n st K:=by
 have hG:=of_decide_eq_true hG
 have hby:=Nat.le_of_ble_eq_true hby
 refine zR6 hT ie tk tk2 (X.map row) (Y.map row) ((X++Y).map row) true st' hop hg hd ht he hpos hx hag hcs hy hag2 hcs2 hd' (by simp only[List.length_map,maxLen];omega) ?_ (zQM X Y row) hst hk
 simp only[List.length_map]
 calc (X.length+Y.length)*ie.bytes≤268435456*524288:=Nat.mul_le_mul hG hby
  _≤140737488355328:=by decide
end Go.TL
