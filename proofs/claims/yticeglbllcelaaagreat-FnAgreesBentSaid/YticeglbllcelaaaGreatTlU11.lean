import Derived.Test.YticeglbllcelaaaGreatTlU10
set_option linter.unusedVariables false
namespace Go.TL
open Go
class TC (P:Program) (T:outParam (Nat→Option TI)):Prop where
 ok:TOk P T
variable {P : Program} {cx : Cx} {T : Nat → Option TI} {ops : Array Oper} {st : St} {c : Code} {Q : Exit → St → Prop} {K : St → Prop} {i id : Nat}
theorem gA [h:TC P T] (n m b:Nat) (hk:Tr P cx c ((zGl T ops 0 n st).onlyM m b) Q) (h1:(zKU T ops 0 n st).isSome=true:=by kernel_rfl) (h2:Nat.ble ops.size (0+n)=true:=by kernel_rfl):Tr P cx (.seq (.region id ops false) c) st Q:=tG h.ok n m b h1 h2 hk
theorem eA [h:TC P T] (n m b:Nat) (hk:Q .normal ((zGl T ops 0 n st).onlyM m b)) (h1:(zKU T ops 0 n st).isSome=true:=by kernel_rfl) (h2:Nat.ble ops.size (0+n)=true:=by kernel_rfl):Tr P cx (.region id ops false) st Q:=tE h.ok n m b h1 h2 hk
theorem uA [h:TC P T] (n m b:Nat) (hk:K ((zGl T ops i n st).onlyM m b)) (h1:(zKU T ops i n st).isSome=true:=by kernel_rfl) (h2:Nat.ble ops.size (i+n)=true:=by kernel_rfl):LAt P cx ops i st K:=uD h.ok n m b h1 h2 hk
theorem rA [h:TC P T] (n:Nat) (hk:LAt P cx ops (0+n) (zGl T ops 0 n st) (fun st'=>Tr P cx c st' Q)) (h1:(zKU T ops 0 n st).isSome=true:=by kernel_rfl):Tr P cx (.seq (.region id ops false) c) st Q:=rU h.ok n h1 hk
theorem lA [h:TC P T] (n:Nat) (hk:LAt P cx ops (i+n) (zGl T ops i n st) K) (h1:(zKU T ops i n st).isSome=true:=by kernel_rfl):LAt P cx ops i st K:=lU h.ok n h1 hk
theorem dA(m b:Nat)(hk:K (st.onlyM m b))(h:Nat.ble ops.size i=true:=by kernel_rfl):LAt P cx ops i st K:=lD m b h hk
theorem fA{a b c:St→Prop}(hc:c st)(h:Nat.ble ops.size i=true:=by kernel_rfl)(ha:a st:=by kernel_rfl)(hb:b st:=by kernel_rfl):LAt P cx ops i st (fun s=>(a s∧b s)∧c s):=lF h ha hb hc
theorem vA [h:TC P T] (ms:List Mode) {f:FuncId} {ps:List JX} {rets:List Ret} (hL:zb P f ps rets []) (hk:LAt P cx ops (i+1) (zJI T ms (zDG ops i).toList (zD4 ops i).toList (opD ops i) rets st) K)
  (hop:opAt ops i=some (.call { callee:=.value (.func f),args:=zDG ops i,argTypes:=zD4 ops i },opD ops i,opY ops i,opG ops i):=by kernel_rfl) (hg:gdT ops st (opG ops i)=true:=by kernel_rfl) (hd:dB st (opD ops i)=true:=by kernel_rfl)
  (hq:(zJR T ms (zDG ops i).toList (zD4 ops i).toList (opD ops i) rets st).map (fun x=>(x.1,x.2.1))=some (ps,[]):=by kernel_rfl):LAt P cx ops i st K:=lV h.ok ms [] hL hop hg hd hq (.inl rfl) hk
theorem vB [h:TC P T] (ms:List Mode) (brs:List zn) {f:FuncId} {ps:List JX} {rets:List Ret} (hL:zb P f ps rets []) (hmine:brs=[]∨∀r∈rets,r.mine) (hk:LAt P cx ops (i+1) (zJI T ms (zDG ops i).toList (zD4 ops i).toList (opD ops i) rets st) K)
  (hop:opAt ops i=some (.call { callee:=.value (.func f),args:=zDG ops i,argTypes:=zD4 ops i },opD ops i,opY ops i,opG ops i):=by kernel_rfl) (hg:gdT ops st (opG ops i)=true:=by kernel_rfl) (hd:dB st (opD ops i)=true:=by kernel_rfl)
  (hq:(zJR T ms (zDG ops i).toList (zD4 ops i).toList (opD ops i) rets st).map (fun x=>(x.1,x.2.1))=some (ps,brs):=by kernel_rfl):LAt P cx ops i st K:=lV h.ok ms brs hL hop hg hd hq hmine hk
theorem tA{cc:Operand}{x y:Code}{e:Bool}(he:e=true)(h:Tr P cx x st Q)(hc:Ql st cc=some (.bool e):=by kernel_rfl):Tr P cx (.cond cc x y) st Q:=tT he hc h
theorem nA{cc:Operand}{x y:Code}{e:Bool}(he:e=false)(h:Tr P cx y st Q)(hc:Ql st cc=some (.bool e):=by kernel_rfl):Tr P cx (.cond cc x y) st Q:=tF he hc h
theorem tB_{cc:Operand}{x y:Code}(h:Tr P cx x st Q)(hc:Ql st cc=some (.bool true):=by kernel_rfl):Tr P cx (.cond cc x y) st Q:=tt hc h
theorem nB_{cc:Operand}{x y:Code}(h:Tr P cx y st Q)(hc:Ql st cc=some (.bool false):=by kernel_rfl):Tr P cx (.cond cc x y) st Q:=tf hc h
def zNA:List (Nat×List Nat)→List Nat→List Nat
 |[],E=>E
 |(i,_)::l,E=>zNA l (i::E)
theorem zPN{t:Tab} :∀(l:List (Nat×List Nat)) (ps:List Pin) (E:List Nat) (m:Nat) (st:St) (x:List Pin×List Nat×St),zPM T ops t l ps E m st=some x→x.2.1=zNA l E
 |[],ps,E,m,st,x,h=>by cases h;rfl
 |(i,D)::l,ps,E,m,st,x,h=>by
  simp only[zPM]at h
  split at h
  ·exact zPN l _ _ _ _ x h
  ·cases h
theorem zPL:∀(l:List (Nat×List Nat)) (ps:List Pin) (E:List Nat) (st:St) (x:List Pin×List Nat×St),zME T ops l ps E st=some x→x.2.1=zNA l E
 |[],ps,E,st,x,h=>by cases h;rfl
 |(i,D)::l,ps,E,st,x,h=>by
  simp only[zME]at h
  split at h
  ·exact zPL l _ _ _ x h
  ·cases h
theorem mA [hT:TC P T] {t:Tab} (ht:qb ops t=true) {m:Nat} {ps:List Pin} {E:List Nat} (l:List (Nat×List Nat)) (n:Nat) (ps':List Pin) (hk:∀cx',AT P cx' ops ps' n (zNA l E) (zQI T ops t l ps E st) K) (hn:n+l.length=m:=by rfl) (h:(zPM T ops t l ps E (Zh E) st).map (fun x=>x.1)=some ps':=by kernel_rfl):AT P cx ops ps m E st K:=by
 refine mU hT.ok ht l n ps' (zNA l E) hn ?_ hk
 cases hc:zPM T ops t l ps E (Zh E) st with
 |none=>rw[hc]at h;cases h
 |some x=>
  rw[hc]at h
  have h1:=zPN l ps E _ st x hc
  obtain⟨ps1,E1,st1⟩:=x
  cases h
  simp only at h1
  subst h1
  rfl
theorem aA [hT:TC P T] {m:Nat} {ps:List Pin} {E:List Nat} (l:List (Nat×List Nat)) (n:Nat) (ps':List Pin) (hk:∀cx',AT P cx' ops ps' n (zNA l E) (zOY T ops l ps E st) K) (hn:n+l.length=m:=by rfl) (h:(zME T ops l ps E st).map (fun x=>x.1)=some ps':=by kernel_rfl):AT P cx ops ps m E st K:=by
 refine aU hT.ok l n ps' (zNA l E) hn ?_ hk
 cases hc:zME T ops l ps E st with
 |none=>rw[hc]at h;cases h
 |some x=>
  rw[hc]at h
  have h1:=zPL l ps E st x hc
  obtain⟨ps1,E1,st1⟩:=x
  cases h
  simp only at h1
  subst h1
  rfl
theorem mC [hT:TC P T] {t:Tab} (ht:qb ops t=true) {ps:List Pin} {n:Nat} {E:List Nat} (i:Nat)
  (h:LAt P cx (takeA ops (i+1)) i st (fun st'=>(ps.map (fun p=>zSt st' (zF9 t.sz (Zh (i::E)) p) p)=ps.map (fun p=>zPn T st' (zF9 t.sz (Zh (i::E)) p) p)∧(ps.all fun p=>(zPn T st' (zF9 t.sz (Zh (i::E)) p) p).isSome)=true)∧AT P cx ops ps n (i::E) st' K)) (hr:zIG t (Zh E)=[i]:=by kernel_rfl) (hb:zRM ops t ps (Zh E) i=true:=by kernel_rfl):AT P cx ops ps (n+1) E st K:=mB1 hT.ok ht i hr hb h
theorem bA [hT:TC P T] {ps:List Pin} {n:Nat} {E:List Nat} (i:Nat)
  (h:LAt P cx (takeA ops (i+1)) i st (fun st'=>(ps.map (zRU st' (lsd ops (i::E)))=ps.map (zNZ T st' (lsd ops (i::E)))∧(ps.all fun p=>(zNZ T st' (lsd ops (i::E)) p).isSome)=true)∧AT P cx ops ps n (i::E) st' K)) (hr:Region.ready .any ops (lsd ops E)=[i]:=by kernel_rfl) (hb:zSd ops ps E i=true:=by kernel_rfl):AT P cx ops ps (n+1) E st K:=zRA hT.ok i hr hb h
theorem mE{t:Tab}(ht:qb ops t=true){ps:List Pin}{n:Nat}{E:List Nat}{S:St}(ls bs:List Nat)(hr:zIG t (Zh E)=[]:=by kernel_rfl)(hs:st.pick ls bs=S:=by kernel_rfl):AT P cx ops ps n E st (fun s=>s=S):=mD ht ls bs S hr hs rfl
theorem eE{ps:List Pin}{n:Nat}{E:List Nat}{S:St}(ls bs:List Nat)(hr:Region.ready .any ops (lsd ops E)=[]:=by kernel_rfl)(hs:st.pick ls bs=S:=by kernel_rfl):AT P cx ops ps n E st (fun s=>s=S):=zRB ls bs S hr hs rfl
theorem sL(m b:Nat)(S:St)(hk:LAt P cx ops i S K)(h:st.onlyM m b=S:=by kernel_rfl):LAt P cx ops i st K:=by
 subst h;exact zAZ.sub (zDF m b st) hk
theorem sT(S:St)(hk:Tr P cx c S Q)(h:st=S:=by kernel_rfl):Tr P cx c st Q:=tO S h hk
theorem AT.sub{ps:List Pin}{n:Nat}{E:List Nat}{S:St}(hs:S.sub st)(hk:AT P cx ops ps n E S K):AT P cx ops ps n E st K:=fun a w Z ω Q L Y hR=>hk a w Z ω Q L Y (hR.sub hs)
theorem sA_(m b:Nat)(S:St){ps:List Pin}{n:Nat}{E:List Nat}(hk:AT P cx ops ps n E S K)(h:st.onlyM m b=S:=by kernel_rfl):AT P cx ops ps n E st K:=by
 subst h;exact AT.sub (zDF m b st) hk
theorem zJM{a b c:St}(h1:a.sub b)(h2:b.sub c):a.sub c:=⟨h1.1.trans h2.1,h1.2.1.trans h2.2.1,fun t sv h=>h2.2.2.1 t sv (h1.2.2.1 t sv h),fun k cs h=>h2.2.2.2 k cs (h1.2.2.2 k cs h)⟩
theorem sB'{ι:Type}{S:ι→St}{I:ι→Prop}(m b:Nat)(st':St)(hk:∃i,I i∧(S i).sub st')(h:st.onlyM m b=st':=by kernel_rfl):∃i,I i∧(S i).sub st:=by
 subst h
 obtain⟨i,h1,h2⟩:=hk
 exact⟨i,h1,zJM h2 (zDF m b st)⟩
theorem sC'{ι:Type}{S:ι→St}{I M:ι→Prop}(m b:Nat)(st':St)(hk:∃i,I i∧(M i∧(S i).sub st'))(h:st.onlyM m b=st':=by kernel_rfl):∃i,I i∧(M i∧(S i).sub st):=by
 subst h
 obtain⟨i,h1,h2,h3⟩:=hk
 exact⟨i,h1,h2,zJM h3 (zDF m b st)⟩
theorem jA{ι:Type}{p:ι→Prop}{S:ι→St}(v:ι)(h:p v)(ls bs:List Nat)(hs:st.pick ls bs=S v:=by kernel_rfl):∃v,p v∧(S v).sub st:=⟨v,h,za ls bs hs⟩
theorem jB{α:Type}{p:Nat×α→Prop}{S:Nat×α→St}(m:Nat)(v:α)(h:p (m,v))(ls bs:List Nat)(hs:st.pick ls bs=S (m,v):=by kernel_rfl):∃v,p v∧(v.1<m+1∧(S v).sub st):=⟨(m,v),h,Nat.lt_succ_self m,za ls bs hs⟩
def dN(ops:Array Oper)(i:Nat):Nat:=(opD ops i).getD 0
def ixT(ops:Array Oper)(i:Nat):TypeId:=match opAt ops i with
 |some (.indexAddr t _ _,_,_,_)=>t
 |_=>0
def ixX(ops:Array Oper)(i:Nat):Operand:=match opAt ops i with
 |some (.indexAddr _ x _,_,_,_)=>x
 |_=>.tmp 0
def ixY(ops:Array Oper)(i:Nat):Operand:=match opAt ops i with
 |some (.indexAddr _ _ y,_,_,_)=>y
 |_=>.tmp 0
def slF(T:Nat→Option TI)(st:St)(t:TypeId)(x y:Operand):zFp:=match zIw T st t x y with
 |some p=>p.1
 |none=>⟨.slot 0,[],0,false,0,[]⟩
def oSt(T:Nat→Option TI)(ops:Array Oper)(i:Nat)(st:St)(v:Int):St:=st.put (dN ops i) (.adr (slF T st (ixT ops i) (ixX ops i) (ixY ops i)).r ((slF T st (ixT ops i) (ixX ops i) (ixY ops i)).q++[((slF T st (ixT ops i) (ixX ops i) (ixY ops i)).o,v.toNat)]) (slF T st (ixT ops i) (ixX ops i) (ixY ops i)).sz 0)
theorem zOZ{t:TypeId}{x y:Operand}{own:Bool}{es:List (List CV)}{v:Int}(h:(zIw T st t x y).map (fun p=>(p.1.own,p.1.es,p.2))=some (own,es,v)):zIw T st t x y=some (slF T st t x y,v)∧(slF T st t x y).own=own∧(slF T st t x y).es=es:=by
 unfold slF
 cases hc:zIw T st t x y with
 |none=>rw[hc]at h;cases h
 |some p=>
  rw[hc]at h
  obtain⟨s,j⟩:=p
  cases h
  exact⟨rfl,rfl,rfl⟩
theorem oA [hT:TC P T] {α:Type} {L:List α} {v:Int} {e:α} (row:α→List CV) (hv:idx L v=some e) (hk:LAt P cx ops (i+1) (oSt T ops i st v) K)
  (hop:opAt ops i=some (.indexAddr (ixT ops i) (ixX ops i) (ixY ops i),some (dN ops i),opY ops i,opG ops i):=by kernel_rfl) (hg:gdT ops st (opG ops i)=true:=by kernel_rfl) (hd:Zx st (dN ops i)=true:=by kernel_rfl) (hq:(zIw T st (ixT ops i) (ixX ops i) (ixY ops i)).map (fun p=>(p.1.own,p.1.es,p.2))=some (true,L.map row,v):=by kernel_rfl)
  (hr:(slF T st (ixT ops i) (ixX ops i) (ixY ops i)).r.eqb (.slot (dN ops i))=false:=by kernel_rfl):LAt P cx ops i st K:=by
 obtain⟨h1,h2,h3⟩:=zOZ hq
 exact zP5 hT.ok _ _ _ (row e) _ hop hg hd h1 h2 hr (by rw[h3];exact JG hv) rfl rfl hk
theorem iA [hT:TC P T] {α:Type} {L:List α} {v:Int} {e:α} (row:α→List CV) (hv:idx L v=some e) (hk:LAt P cx ops (i+1) (st.put (dN ops i) (.fad (qh (row e)))) K)
  (hop:opAt ops i=some (.indexAddr (ixT ops i) (ixX ops i) (ixY ops i),some (dN ops i),opY ops i,opG ops i):=by kernel_rfl) (hg:gdT ops st (opG ops i)=true:=by kernel_rfl) (hd:Zx st (dN ops i)=true:=by kernel_rfl) (hq:(zIw T st (ixT ops i) (ixX ops i) (ixY ops i)).map (fun p=>(p.1.own,p.1.es,p.2))=some (false,zQ (L.map row),v):=by kernel_rfl):LAt P cx ops i st K:=by
 obtain⟨h1,h2,h3⟩:=zOZ hq
 exact zP4 hT.ok _ _ (qh (row e)) _ hop hg hd h1 h2 (by rw[h3];exact zCa hv) rfl hk
theorem oN [hT:TC P T] {t:Tab} (ht:qb ops t=true) {ps:List Pin} {n:Nat} {E:List Nat} {α:Type} {L:List α} {v:Int} {e:α} (i:Nat) (row:α→List CV) (hv:idx L v=some e) (hk:∀cx',AT P cx' ops ps n (i::E) (oSt T ops i st v) K)
  (hop:opAt ops i=some (.indexAddr (ixT ops i) (ixX ops i) (ixY ops i),some (dN ops i),opY ops i,opG ops i):=by kernel_rfl) (hg:gdT ops st (opG ops i)=true:=by kernel_rfl) (hd:Zx st (dN ops i)=true:=by kernel_rfl) (hok:okM t (Zh E) E ps i []=true:=by kernel_rfl) (hdB:zPB t.sz (Zh E) ps (some (dN ops i))=true:=by kernel_rfl) (hq:(zIw T st (ixT ops i) (ixX ops i) (ixY ops i)).map (fun p=>(p.1.own,p.1.es,p.2))=some (true,L.map row,v):=by kernel_rfl)
  (hr:(slF T st (ixT ops i) (ixX ops i) (ixY ops i)).r.eqb (.slot (dN ops i))=false:=by kernel_rfl):AT P cx ops ps (n+1) E st K:=by
 obtain⟨h1,h2,h3⟩:=zOZ hq
 exact zKc hT.ok i _ _ _ (row e) _ hop (oM ht hok) (dM ht hdB) hg hd h1 h2 hr (by rw[h3];exact JG hv) rfl rfl hk
theorem iN [hT:TC P T] {t:Tab} (ht:qb ops t=true) {ps:List Pin} {n:Nat} {E:List Nat} {α:Type} {L:List α} {v:Int} {e:α} (i:Nat) (row:α→List CV) (hv:idx L v=some e) (hk:∀cx',AT P cx' ops ps n (i::E) (st.put (dN ops i) (.fad (qh (row e)))) K)
  (hop:opAt ops i=some (.indexAddr (ixT ops i) (ixX ops i) (ixY ops i),some (dN ops i),opY ops i,opG ops i):=by kernel_rfl) (hg:gdT ops st (opG ops i)=true:=by kernel_rfl) (hd:Zx st (dN ops i)=true:=by kernel_rfl) (hok:okM t (Zh E) E ps i []=true:=by kernel_rfl) (hdB:zPB t.sz (Zh E) ps (some (dN ops i))=true:=by kernel_rfl) (hq:(zIw T st (ixT ops i) (ixX ops i) (ixY ops i)).map (fun p=>(p.1.own,p.1.es,p.2))=some (false,zQ (L.map row),v):=by kernel_rfl):AT P cx ops ps (n+1) E st K:=by
 obtain⟨h1,h2,h3⟩:=zOZ hq
 exact zN0 hT.ok i _ _ (qh (row e)) _ hop (oM ht hok) (dM ht hdB) hg hd h1 h2 (by rw[h3];exact zCa hv) rfl hk
def lnX(ops:Array Oper)(i:Nat):Operand:=(zDG ops i).getD 0 (.tmp 0)
def lnT(ops:Array Oper)(i:Nat):TypeId:=(zD4 ops i).getD 0 0
theorem zRO{x:Operand}{es:List (List CV)}(h:(slS st x).map (fun s=>s.es)=some es):∃s,slS st x=some s∧s.es=es:=by
 cases hc:slS st x with
 |none=>rw[hc]at h;cases h
 |some s=>rw[hc]at h;cases h;exact⟨s,rfl,rfl⟩
theorem kO [hT:TC P T] {α:Type} (L:List α) (row:α→List CV) (hk:LAt P cx ops (i+1) (st.put (dN ops i) (.val false [.lit (.int .i64 L.length)])) K)
  (hop:opAt ops i=some (.call { callee:=.builtin .len,args:= #[lnX ops i],argTypes:= #[lnT ops i] },some (dN ops i),opY ops i,opG ops i):=by kernel_rfl) (hg:gdT ops st (opG ops i)=true:=by kernel_rfl) (hd:Zx st (dN ops i)=true:=by kernel_rfl) (hs:(zCO T (lnT ops i)).isSome=true:=by kernel_rfl) (hq:(slS st (lnX ops i)).map (fun s=>s.es)=some (L.map row):=by kernel_rfl):LAt P cx ops i st K:=by
 obtain⟨s,h1,h2⟩:=zRO hq
 obtain⟨e,he⟩:=Option.isSome_iff_exists.1 hs
 exact zMj hT.ok s L.length _ hop hg hd he h1 (by rw[h2];exact zL8 L row) rfl hk
theorem kON [hT:TC P T] {t:Tab} (ht:qb ops t=true) {ps:List Pin} {n:Nat} {E:List Nat} {α:Type} (i:Nat) (L:List α) (row:α→List CV) (hk:∀cx',AT P cx' ops ps n (i::E) (st.put (dN ops i) (.val false [.lit (.int .i64 L.length)])) K)
  (hop:opAt ops i=some (.call { callee:=.builtin .len,args:= #[lnX ops i],argTypes:= #[lnT ops i] },some (dN ops i),opY ops i,opG ops i):=by kernel_rfl) (hg:gdT ops st (opG ops i)=true:=by kernel_rfl) (hd:Zx st (dN ops i)=true:=by kernel_rfl) (hs:(zCO T (lnT ops i)).isSome=true:=by kernel_rfl) (hok:okM t (Zh E) E ps i []=true:=by kernel_rfl) (hdB:zPB t.sz (Zh E) ps (some (dN ops i))=true:=by kernel_rfl) (hq:(slS st (lnX ops i)).map (fun s=>s.es)=some (L.map row):=by kernel_rfl):AT P cx ops ps (n+1) E st K:=by
 obtain⟨s,h1,h2⟩:=zRO hq
 obtain⟨e,he⟩:=Option.isSome_iff_exists.1 hs
 exact zOc hT.ok i s L.length _ hop (oM ht hok) (dM ht hdB) hg hd he h1 (by rw[h2];exact zL8 L row) rfl hk
theorem kF [hT:TC P T] {α:Type} (L:List α) (row:α→List CV) (hk:LAt P cx ops (i+1) (st.put (dN ops i) (.val false [.lit (.int .i64 L.length)])) K)
  (hop:opAt ops i=some (.call { callee:=.builtin .len,args:= #[lnX ops i],argTypes:= #[lnT ops i] },some (dN ops i),opY ops i,opG ops i):=by kernel_rfl) (hg:gdT ops st (opG ops i)=true:=by kernel_rfl) (hd:Zx st (dN ops i)=true:=by kernel_rfl) (hs:(zCO T (lnT ops i)).isSome=true:=by kernel_rfl) (hq:(slS st (lnX ops i)).map (fun s=>s.es)=some (zQ (L.map row)):=by kernel_rfl):LAt P cx ops i st K:=by
 obtain⟨s,h1,h2⟩:=zRO hq
 obtain⟨e,he⟩:=Option.isSome_iff_exists.1 hs
 exact zMj hT.ok s L.length _ hop hg hd he h1 (by rw[h2];exact zH7 L row) rfl hk
theorem kFN [hT:TC P T] {t:Tab} (ht:qb ops t=true) {ps:List Pin} {n:Nat} {E:List Nat} {α:Type} (i:Nat) (L:List α) (row:α→List CV) (hk:∀cx',AT P cx' ops ps n (i::E) (st.put (dN ops i) (.val false [.lit (.int .i64 L.length)])) K)
  (hop:opAt ops i=some (.call { callee:=.builtin .len,args:= #[lnX ops i],argTypes:= #[lnT ops i] },some (dN ops i),opY ops i,opG ops i):=by kernel_rfl) (hg:gdT ops st (opG ops i)=true:=by kernel_rfl) (hd:Zx st (dN ops i)=true:=by kernel_rfl) (hs:(zCO T (lnT ops i)).isSome=true:=by kernel_rfl) (hok:okM t (Zh E) E ps i []=true:=by kernel_rfl) (hdB:zPB t.sz (Zh E) ps (some (dN ops i))=true:=by kernel_rfl) (hq:(slS st (lnX ops i)).map (fun s=>s.es)=some (zQ (L.map row)):=by kernel_rfl):AT P cx ops ps (n+1) E st K:=by
 obtain⟨s,h1,h2⟩:=zRO hq
 obtain⟨e,he⟩:=Option.isSome_iff_exists.1 hs
 exact zOc hT.ok i s L.length _ hop (oM ht hok) (dM ht hdB) hg hd he h1 (by rw[h2];exact zH7 L row) rfl hk
def apX(ops:Array Oper)(i:Nat):Operand:=(zDG ops i).getD 0 (.tmp 0)
def apY(ops:Array Oper)(i:Nat):Operand:=(zDG ops i).getD 1 (.tmp 0)
def elT(T:Nat→Option TI)(t:TypeId):TI:=match zCO T t with
 |some e=>(T e).getD ⟨.bool,1,1,[]⟩
 |none=>⟨.bool,1,1,[]⟩
theorem zTf{t:TypeId}(h:((zCO T t).bind T).isSome=true):∃e,zCO T t=some e∧T e=some (elT T t):=by
 unfold elT
 cases hc:zCO T t with
 |none=>rw[hc]at h;cases h
 |some e=>
  rw[hc]at h
  cases he:T e with
  |none=>simp[he]at h
  |some ie=>exact⟨e,rfl,by simp[he]⟩
theorem pD [hT:TC P T] {α:Type} (row:α→List CV) {X Y:List α} (hG:decide (X.length+Y.length≤268435456)=true) (hk:LAt P cx ops (i+1) ((zBC T st (lnT ops i) (apX ops i)).put (dN ops i) (.val false [.sl true (elT T (lnT ops i)).size ((X++Y).map row)])) K)
  (hop:opAt ops i=some (.call { callee:=.builtin .append,args:= #[apX ops i,apY ops i],argTypes:= #[lnT ops i,lnT ops i] },some (dN ops i),opY ops i,opG ops i):=by kernel_rfl) (hg:gdT ops st (opG ops i)=true:=by kernel_rfl) (hd:Zx st (dN ops i)=true:=by kernel_rfl) (hs:((zCO T (lnT ops i)).bind T).isSome=true:=by kernel_rfl)
  (hpos:Nat.ble 1 (elT T (lnT ops i)).size=true:=by kernel_rfl) (hby:Nat.ble (elT T (lnT ops i)).bytes 524288=true:=by kernel_rfl) (hx:(Yp T st (lnT ops i) (apX ops i)).map (fun tk=>(tk.ag,tk.cs))=some (false,[.sl true (elT T (lnT ops i)).size (X.map row)]):=by kernel_rfl) (hd':Zx (zBC T st (lnT ops i) (apX ops i)) (dN ops i)=true:=by kernel_rfl)
  (hy:(slS (zBC T st (lnT ops i) (apX ops i)) (apY ops i)).map (fun s=>(s.sz,s.es))=some ((elT T (lnT ops i)).size,zQ (Y.map row)):=by kernel_rfl) (hflat:∀v,zZ (row v)=true:=by intro _;rfl) (hfrz:∀v,qh (row v)=row v:=by intro _;rfl):LAt P cx ops i st K:=by
 obtain⟨e,h1,h2⟩:=zTf hs
 cases hc:slS (zBC T st (lnT ops i) (apX ops i)) (apY ops i)with
 |none=>rw[hc]at hy;cases hy
 |some s=>
  rw[hc]at hy
  simp only[Option.map_some,Option.some.injEq,Prod.mk.injEq]at hy
  exact zN1 hT.ok _ row X Y s hop hg hd h1 h2 hpos hby hx hd' hc (by rw[hy.1];exact Nat.beq_refl _) (.inr hy.2) hflat hfrz hG hk
def stT(ops:Array Oper)(i:Nat):TypeId:=match opAt ops i with
 |some (.store t _ _,_,_,_)=>t
 |_=>0
def stA(ops:Array Oper)(i:Nat):Operand:=match opAt ops i with
 |some (.store _ a _,_,_,_)=>a
 |_=>.tmp 0
def stX(ops:Array Oper)(i:Nat):Operand:=match opAt ops i with
 |some (.store _ _ x,_,_,_)=>x
 |_=>.tmp 0
theorem sS [hT:TC P T] {n:Nat} (i:TI) (ag:Bool) (tcs:List CV) (k o2 j m o sz:Nat) {α:Type} {L:List α} (row:α→List CV) {el:α} (new:α) (he:L[j]? =some el) (hk:LAt P cx ops (n+1) (zOM (zZ tcs) (zBC T st (stT ops n) (stX ops n)) (.slot k) 1 o2 (.sl true sz ((L.set j new).map row))) K)
  (hop:opAt ops n=some (.store (stT ops n) (stA ops n) (stX ops n),none,opY ops n,opG ops n):=by kernel_rfl) (hg:gdT ops st (opG ops n)=true:=by kernel_rfl) (ht:T (stT ops n)=some i:=by kernel_rfl) (hx:(Yp T st (stT ops n) (stX ops n)).map (fun tk=>(tk.ag,tk.cs))=some (ag,tcs):=by kernel_rfl) (hl:(tcs.length==i.size)=true:=by kernel_rfl)
  (ha:zLn (zBC T st (stT ops n) (stX ops n)) (stA ops n)=some (.slot k,[(o2,j)],m,o,zMD (zBC T st (stT ops n) (stX ops n)) (.slot k)):=by kernel_rfl) (hrr:zE7 (zBC T st (stT ops n) (stX ops n)) (.slot k)=some (zMD (zBC T st (stT ops n) (stX ops n)) (.slot k)):=by kernel_rfl)
  (hc:(zMD (zBC T st (stT ops n) (stX ops n)) (.slot k))[o2]? =some (.sl true sz (L.map row)):=by kernel_rfl) (hm:(row el).length=m:=by kernel_rfl) (hle:Nat.ble (o+i.size) m=true:=by kernel_rfl) (hf:setAt o tcs (row el)=row new:=by kernel_rfl)
  (hst:((zBC T st (stT ops n) (stX ops n)).modRK (zZ tcs) (.slot k) 1 ((zMD (zBC T st (stT ops n) (stX ops n)) (.slot k)).set o2 (.sl true sz ((L.set j new).map row)))).isSome=true:=by kernel_rfl):LAt P cx ops n st K:=
 zP6 hT.ok i ag tcs k o2 j m o sz L row el new hop hg ht hx hl ha hrr hc he hm hle hf hst hk
def zLG:List Ret→List (Bool×List CV)
 |.val a cs::l=>(a,cs)::zLG l
 |_=>[]
theorem cA [hT : TC P T] {f : FuncId} {fn : Func} (hf : P.funcs[f]? = some fn) (c : Code) (rs : List ResultVar) {args : List JX} {rets : List Ret} (h : ∀ cx, Tr P cx c (zLC fn.ntmps 0 args) (zT3 T rs args [] (zLG rets) [] [])) (hname : (fn.name == "runtime.NumGoroutine") = false := by rfl) (hb : fn.body = some c := by kernel_rfl)
  (hn:Nat.ble args.length fn.ntmps=true:=by kernel_rfl) (hrs:fn.results.toList=rs:=by rfl) (hv:(zLG rets).map (fun x=>Ret.val x.1 x.2)=rets:=by rfl):zb P f args rets []:=by
 have:=zu hT.ok hf hname hb (Nat.le_of_ble_eq_true hn) 0 hrs [] .nil (zLG rets) [] [] h
 rw[hv]at this
 exact this
def ldT(ops:Array Oper)(i:Nat):TypeId:=match opAt ops i with
 |some (.load t _,_,_,_)=>t
 |_=>0
def ldX(ops:Array Oper)(i:Nat):Operand:=match opAt ops i with
 |some (.load _ x,_,_,_)=>x
 |_=>.tmp 0
theorem bs{α β:Type}{o:Option α}{f:α→Option β}{b:β}(h:o.bind f=some b):∃a,o=some a∧f a=some b:=bind_some h
theorem gs{α:Type}{b:Bool}{x:Option α}{y:α}(h:(bif b then x else none)=some y):b=true∧x=some y:=zL0 h
theorem nN{α:Type}{a:α}{p:Prop}(h:none=some a):p:=nomatch h
theorem dE [hT:TC P T] (i':TI) (r:zn) (q:List (Nat×Nat)) (m o:Nat) (row e:List CV) (hge:zAM row q=some e) (hk:LAt P cx ops (i+1) (st.put (dN ops i) (bif zZ ((e.drop o).take i'.size)then .val i'.ag ((e.drop o).take i'.size)else .ref r q m o i'.size i'.ag)) K)
  (hop:opAt ops i=some (.load (ldT ops i) (ldX ops i),some (dN ops i),opY ops i,opG ops i):=by kernel_rfl) (hg:gdT ops st (opG ops i)=true:=by kernel_rfl) (hd:Zx st (dN ops i)=true:=by kernel_rfl) (ht:T (ldT ops i)=some i':=by kernel_rfl) (hx:zLn st (ldX ops i)=some (r,q,m,o,row):=by kernel_rfl) (hm:e.length=m:=by kernel_rfl)
  (hq:q.isEmpty=false:=by kernel_rfl) (hr:r.eqb (.slot (dN ops i))=false:=by kernel_rfl) (hl:(((e.drop o).take i'.size).length==i'.size)=true:=by kernel_rfl):LAt P cx ops i st K:=
 zRJ hT.ok i' r q m o row e _ hop hg hd ht hx hge hm (by intro h;rw[h]at hq;cases hq) hr hl rfl hk
end Go.TL
