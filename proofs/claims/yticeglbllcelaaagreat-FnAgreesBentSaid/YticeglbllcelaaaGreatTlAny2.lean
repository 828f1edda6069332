import Derived.Test.YticeglbllcelaaaGreatTlAny
set_option linter.unusedVariables false
namespace Go.TL
def zPq(T:Nat→Option TI)(st:St):Op→Bool
 |.move _|.assign _=>true
 | .binOp op t x y _ => match Ql st x with
  |some vx=>match Ql st y with
   |some vy=>(zS8 (isBool T t) op vx vy).isSome
   |none=>false
  |none=>false
 |.unOp op _ x=>match Ql st x with
  |some vx=>(unV op vx).isSome
  |none=>false
 |.pick c x y=>match Ql st c with
  |some (.bool true)=>(Ql st x).isSome
  |some (.bool false)=>(Ql st y).isSome
  |_=>false
 | .fieldAddr t (.tmp x) f => match zQU T t f with
  |some _=>match lk st.s x with
   |some (.adr _ _ _ _)=>true
   |some (.fad _)=>true
   |_=>false
  |none=>false
 |.nilCheck (.tmp x)=>match lk st.s x with
  |some (.adr _ _ _ _)=>true
  |_=>false
 | .convert t u x => match isInt T t with
  | some _ => match isInt T u with
   |some _=>match Ql st x with
    |some (.int _ _)=>true
    |_=>false
   |none=>false
  |none=>false
 |.extract (.tmp t) k=>match lk st.s t with
  |some (.tup vs)=>(vs[k]?).isSome
  |_=>false
 |_=>false
theorem zOj{P:Program}{cx:Cx}{T:Nat→Option TI}(hT:TOk P T){st:St}{o:Oper}(h:zPq T st o.op=true):zEN P cx o st:=by
 unfold zPq at h
 split at h
 ·rename_i x ho;exact zJ2 (.inl ho)
 ·rename_i x ho;exact zJ2 (.inr ho)
 ·rename_i op t x y ty ho
  split at h
  ·rename_i vx hx
   split at h
   ·rename_i vy hy
    obtain⟨v,hv⟩:=Option.isSome_iff_exists.1 h
    obtain⟨φ,h1,h2⟩:=zNF hv
    exact zRr hT ho hx hy h1 h2
   ·cases h
  ·cases h
 ·rename_i op t x ho
  split at h
  ·rename_i vx hx
   obtain⟨v,hv⟩:=Option.isSome_iff_exists.1 h
   exact zSw ho hx hv
  ·cases h
 ·rename_i c x y ho
  split at h
  ·rename_i hc
   obtain⟨v,hv⟩:=Option.isSome_iff_exists.1 h
   exact zNa (vy:=v) ho hc (fun _=>hv) (fun e=>by cases e)
  ·rename_i hc
   obtain⟨v,hv⟩:=Option.isSome_iff_exists.1 h
   exact zNa (vx:=v) ho hc (fun e=>by cases e) (fun _=>hv)
  ·cases h
 ·rename_i t x f ho
  split at h
  ·rename_i off ht
   split at h
   ·rename_i r q m k hx;exact zPr hT ho ht hx
   ·rename_i cs hx;exact zOl hT ho ht hx
   ·cases h
  ·cases h
 ·rename_i x ho
  split at h
  ·rename_i r q m k hx
   intro a w Z ω hR
   obtain⟨b,h1,h2⟩:=hR.hs x _ (zw hx)
   have he:a.eval (.tmp x)=.pointer (some ⟨b,ZH q*m+k,none⟩):=h2
   exact⟨.pointer (some ⟨b,ZH q*m+k,none⟩),fun w'=>by simp[execOp,ho,he]⟩
  ·cases h
 ·rename_i t u x ho
  split at h
  ·rename_i k0 ht
   split at h
   ·rename_i k' hu
    split at h
    ·rename_i k n hx
     intro a w Z ω hR
     have h1:=(qY hR hx).1
     exact⟨.int k' (k'.wrap n),fun w'=>by simp[execOp,ho,h1,convert,run_underlying (zFW hT ht),run_underlying (zFW hT hu),Conv.intToInt]⟩
    ·cases h
   ·cases h
  ·cases h
 ·rename_i t k ho
  split at h
  ·rename_i vs hx
   obtain⟨⟨ag,cs⟩,hk⟩:=Option.isSome_iff_exists.1 h
   intro a w Z ω hR
   obtain⟨us,g1,g2,g3⟩:=hR.hs t _ (zw hx)
   obtain⟨u,k1,k2,k3⟩:=g3 k ag cs hk
   have he:a.eval (.tmp t)=.tuple us:=g1
   exact⟨u,fun w'=>by simp[execOp,ho,Instr.extract,he,k1]⟩
  ·cases h
 ·cases h
def gdK(ops:Array Oper)(st:St):Option (Nat×Bool)→Option Bool
 |none=>some true
 |some (j,want)=>match gdS ops st j with
  |some true=>some want
  |some false=>some !want
  |none=>bif gdN ops st j then some false else none
theorem zQs{ops:Array Oper}{st:St}{g:Option (Nat×Bool)}(h:gdK ops st g=some true):gdT ops st g=true:=by
 unfold gdK at h
 split at h
 ·rfl
 ·rename_i j want
  simp only[gdT]
  split at h
  ·rename_i e;rw[e];exact Option.some.inj h
  ·rename_i e;rw[e];exact Option.some.inj h
  ·cases hN:gdN ops st j<;>simp[hN]at h
theorem zSl{ops:Array Oper}{st:St}{g:Option (Nat×Bool)}(h:gdK ops st g=some false):∃j want,g=some (j,want)∧(gdS ops st j=some (!want)∨gdN ops st j=true):=by
 unfold gdK at h
 split at h
 ·cases h
 ·rename_i j want
  refine⟨j,want,rfl,?_⟩
  split at h
  ·rename_i e;have:=Option.some.inj h;subst this;exact .inl e
  ·rename_i e;have:=Option.some.inj h;simp at this;subst this;exact .inl e
  ·cases hN:gdN ops st j with
   |false=>simp[hN]at h
   |true=>exact .inr rfl
def zMp(T:Nat→Option TI)(ops:Array Oper)(ps:List Pin)(E:List Nat)(i:Nat)(D:List Nat)(st:St):Option (List Pin×St):=match ops[i]? with
 |none=>none
 | some o => bif okE ops ps E i D && zHL ps (lsd ops E) o.dst then (match gdK ops st o.guard with
  |none=>none
  | some false => (match D with
   |[]=>(match o.dst with
    |none=>some (ps,st)
    |some d=>bif Zx st d then some (ps,st.forget (some d))else none)
   |_=>none)
  | some true => (match o.dst with
   |none=>none
   | some d => bif Zx st d then (match o.op with
    | .load t (.tmp x) => (match T t with
     |none=>none
     | some ti => (match lk st.s x with
      |some (.fad cs0)=>(match D with
       |[]=>bif (cs0.take ti.size).length==ti.size then some (ps,st.put d (.val ti.ag (cs0.take ti.size)))else none
       |_=>none)
      |_=>(match adS st (.tmp x)with
       |some s=>bif ((s.e.drop s.o).take ti.size).length==ti.size&& !s.r.eqb (.slot d)&& !(d==x)then some (⟨D,t,x,d⟩::ps,st.put d (ldV ti s ((s.e.drop s.o).take ti.size)))else none
       |none=>none)))
    | op => (match D with
     |[]=>bif zPq T st op then(match zIa T st op o.type (some d)with
      |some st'=>some (ps,st')
      |none=>none)else none
     |_=>none))else none))else none
theorem zNk{P:Program}{cx:Cx}{T:Nat→Option TI}(hT:TOk P T){ops:Array Oper}{ps ps':List Pin}{n:Nat}{E:List Nat}{st st':St}{K:St→Prop}{i:Nat}{D:List Nat}(h:zMp T ops ps E i D st=some (ps',st'))
  (hk:∀cx',AT P cx' ops ps' n (i::E) st' K):AT P cx ops ps (n+1) E st K:=by
 unfold zMp at h
 split at h
 ·cases h
 ·rename_i o ho
  cases hc:(okE ops ps E i D&&zHL ps (lsd ops E) o.dst)with
  |false=>simp[hc]at h
  | true =>
   simp only[hc,cond_true]at h
   rw[Bool.and_eq_true]at hc
   obtain⟨hok,hdB⟩:=hc
   split at h
   ·cases h
   ·rename_i hg
    obtain⟨j,want,e1,e2⟩:=zSl hg
    split at h
    ·split at h
     ·rename_i hd
      cases h
      refine AT.skip ho hok hdB e1 e2 (fun x hx=>by rw[hd]at hx;cases hx) ?_
      rw[hd];exact hk
     ·rename_i d hd
      cases hod:Zx st d with
      |false=>simp[hod]at h
      |true=>
       simp only[hod,cond_true,Option.some.injEq,Prod.mk.injEq]at h
       obtain⟨rfl,rfl⟩:=h
       refine AT.skip ho hok hdB e1 e2 (fun x hx=>by rw[hd]at hx;cases hx;exact qi hod) ?_
       rw[hd];exact hk
    ·cases h
   ·rename_i hg
    have hg:=zQs hg
    split at h
    ·cases h
    ·rename_i d hd
     cases hod:Zx st d with
     |false=>simp[hod]at h
     | true =>
      have hdo:=qi hod
      simp only[hod,cond_true]at h
      split at h
      ·rename_i t x hop
       split at h
       ·cases h
       ·rename_i ti ht
        split at h
        ·rename_i cs0 hx
         split at h
         ·cases hl:((cs0.take ti.size).length==ti.size)with
          |false=>simp only[hl,cond_false]at h;cases h
          |true=>
           simp only[hl,cond_true,Option.some.injEq,Prod.mk.injEq]at h
           obtain⟨rfl,rfl⟩:=h
           exact zR2 hT ho hok hdB hg hop hd hdo ht hx (by simpa using hl) hk
         ·cases h
        ·split at h
         ·rename_i s hs
          cases hl:(((s.e.drop s.o).take ti.size).length==ti.size&& !s.r.eqb (.slot d)&& !(d==x))with
          |false=>simp only[hl,cond_false]at h;cases h
          |true=>
           simp only[hl,cond_true,Option.some.injEq,Prod.mk.injEq]at h
           obtain⟨rfl,rfl⟩:=h
           simp only[Bool.and_eq_true,Bool.not_eq_true',beq_iff_eq,beq_eq_false_iff_ne]at hl
           exact zR3 hT ho hok hg hdB hop hd hdo hl.2 hdo.2 ht hs rfl hl.1.1 hl.1.2 hk
         ·cases h
      ·split at h
       ·cases hp:zPq T st o.op with
        |false=>simp only[hp,cond_false]at h;cases h
        | true =>
         simp only[hp,cond_true]at h
         split at h
         ·rename_i st1 hst
          cases h
          exact zRC ho hok hdB hg (fun cx=>zKZ hT (by rw[hd];exact hst)) (fun cx=>zOj hT hp) hk
         ·cases h
       ·cases h
def zME(T:Nat→Option TI)(ops:Array Oper):List (Nat×List Nat)→List Pin→List Nat→St→Option (List Pin×List Nat×St)
 |[],ps,E,st=>some (ps,E,st)
 |(i,D)::l,ps,E,st=>match zMp T ops ps E i D st with
  |some (ps',st')=>zME T ops l ps' (i::E) st'
  |none=>none
theorem zRD{P:Program}{T:Nat→Option TI}(hT:TOk P T){ops:Array Oper}{K:St→Prop}{n:Nat}{ps':List Pin}{E':List Nat}{st':St} :∀(l:List (Nat×List Nat)) {cx:Cx} {ps:List Pin} {E:List Nat} {st:St},zME T ops l ps E st=some (ps',E',st')→
  (∀cx',AT P cx' ops ps' n E' st' K)→AT P cx ops ps (n+l.length) E st K
 |[],cx,ps,E,st,h,hk=>by cases h;exact hk cx
 | (i,D) :: l,cx,ps,E,st,h,hk => by
  simp only[zME]at h
  split at h
  ·rename_i ps1 st1 h1
   exact zNk hT h1 fun cx'=>zRD hT l h hk
  ·cases h
theorem AT.run{P:Program}{cx:Cx}{T:Nat→Option TI}(hT:TOk P T){ops:Array Oper}{K:St→Prop}{m:Nat}{ps:List Pin}{E:List Nat}{st:St}(l:List (Nat×List Nat))(n:Nat)(ps':List Pin)(E':List Nat)(st':St)(hn:n+l.length=m)(h:zME T ops l ps E st=some (ps',E',st'))
  (hk:∀cx',AT P cx' ops ps' n E' st' K):AT P cx ops ps m E st K:=by
 subst hn
 exact zRD hT l h hk
theorem zJu{P:Program}{cx:Cx}{ops:Array Oper}{ps:List Pin}{n:Nat}{E:List Nat}{st:St}{K:St→Prop}{i:Nat}{st':St}{op:Op}{d:Nat}{ty:TypeId}{g:Option (Nat×Bool)}(hop:opAt ops i=some (op,some d,ty,g))(hok:okE ops ps E i []=true)(hd:zHL ps (lsd ops E) (some d)=true)(hg:gdT ops st g=true)
  (h:∀(cx:Cx) (o:Oper),o.op=op→o.dst=some d→o.type=ty→zCN P cx o st st'∧zEN P cx o st) (h2:∀cx',AT P cx' ops ps n (i::E) st' K):AT P cx ops ps (n+1) E st K:=by
 obtain⟨o,ho,e1,e2,e3,e4⟩:=zHy hop
 exact zRC ho hok (by rw[e2];exact hd) (by rw[e4];exact hg) (fun cx=>(h cx o e1 e2 e3).1) (fun cx=>(h cx o e1 e2 e3).2) h2
theorem zN0{P:Program}{cx:Cx}{T:Nat→Option TI}(hT:TOk P T){ops:Array Oper}{ps:List Pin}{n:Nat}{E:List Nat}{st:St}{K:St→Prop}(i:Nat){t ty:TypeId}{x y:Operand}{d:Nat}{g:Option (Nat×Bool)}(s:zFp)(v:Int)(e:List CV)(st':St)
  (hop:opAt ops i=some (.indexAddr t x y,some d,ty,g)) (hok:okE ops ps E i []=true) (hdB:zHL ps (lsd ops E) (some d)=true) (hg:gdT ops st g=true) (hd:Zx st d=true) (hq:zIw T st t x y=some (s,v)) (hown:s.own=false) (hi:IsE s.es v e) (hst:st.put d (.fad e)=st') (h2:∀cx',AT P cx' ops ps n (i::E) st' K):AT P cx ops ps (n+1) E st K:=by
 subst hst
 refine zJu hop hok hdB hg (fun cx o ho hdst _=>?_) h2
 unfold zIw at hq
 split at hq
 ·rename_i et ht
  split at hq
  ·rename_i ie he
   split at hq
   ·rename_i s' hx
    split at hq
    ·rename_i k i' hy
     cases hs:(s'.sz==ie.size)with
     |false=>simp[hs]at hq
     |true=>
      simp only[hs,cond_true,Option.some.injEq,Prod.mk.injEq]at hq
      obtain⟨rfl,rfl⟩:=hq
      exact⟨zNX hT ho hdst (qi hd) ht he hx (eq_of_beq hs) hy hown hi,zOm hT ho ht he hx hy hown hi⟩
    ·cases hq
   ·cases hq
  ·cases hq
 ·cases hq
theorem zKc{P:Program}{cx:Cx}{T:Nat→Option TI}(hT:TOk P T){ops:Array Oper}{ps:List Pin}{n:Nat}{E:List Nat}{st:St}{K:St→Prop}(i:Nat){t ty:TypeId}{x y:Operand}{d:Nat}{g:Option (Nat×Bool)}(s:zFp)(v:Int)(j:Nat)(e:List CV)(st':St)
  (hop:opAt ops i=some (.indexAddr t x y,some d,ty,g)) (hok:okE ops ps E i []=true) (hdB:zHL ps (lsd ops E) (some d)=true) (hg:gdT ops st g=true) (hd:Zx st d=true) (hq:zIw T st t x y=some (s,v)) (hown:s.own=true) (hr:s.r.eqb (.slot d)=false) (hi:IsE s.es v e) (hj:v.toNat=j)
  (hst:st.put d (.adr s.r (s.q++[(s.o,j)]) s.sz 0)=st') (h2:∀cx',AT P cx' ops ps n (i::E) st' K):AT P cx ops ps (n+1) E st K:=by
 subst hst;subst hj
 refine zJu hop hok hdB hg (fun cx o ho hdst _=>?_) h2
 unfold zIw at hq
 split at hq
 ·rename_i et ht
  split at hq
  ·rename_i ie he
   split at hq
   ·rename_i s' hx
    split at hq
    ·rename_i k i' hy
     cases hs:(s'.sz==ie.size)with
     |false=>simp[hs]at hq
     |true=>
      simp only[hs,cond_true,Option.some.injEq,Prod.mk.injEq]at hq
      obtain⟨rfl,rfl⟩:=hq
      exact⟨zJ1 hT ho hdst (qi hd) ht he hx (eq_of_beq hs) hy hown hi hr,zOn hT ho ht he hx hy hown hi⟩
    ·cases hq
   ·cases hq
  ·cases hq
 ·cases hq
theorem AT.movT{P:Program}{cx:Cx}{T:Nat→Option TI}(hT:TOk P T){ops:Array Oper}{ps:List Pin}{n:Nat}{E:List Nat}{st:St}{K:St→Prop}(i:Nat){op:Op}{ty:TypeId}{t d:Nat}{g:Option (Nat×Bool)}(vs:List (Bool×List CV))(st':St)
  (hop:opAt ops i=some (op,some d,ty,g)) (hok:okE ops ps E i []=true) (hdB:zHL ps (lsd ops E) (some d)=true) (hm:op=.move (.tmp t)∨op=.assign (.tmp t)) (hg:gdT ops st g=true) (hd:Zx st d=true) (hx:lk st.s t=some (.tup vs)) (hdt:Nat.beq d t=false) (hst:st.movT d t vs=st') (h2:∀cx',AT P cx' ops ps n (i::E) st' K):AT P cx ops ps (n+1) E st K:=by
 subst hst
 refine zJu hop hok hdB hg (fun cx o ho hdst _=>?_) h2
 have hm':o.op=.move (.tmp t)∨o.op=.assign (.tmp t):=hm.imp (fun e=>ho.trans e) fun e=>ho.trans e
 exact⟨zQa hm' hdst (qi hd) hx (Nat.ne_of_beq_eq_false hdt),zJ2 hm'⟩
theorem zOc{P:Program}{cx:Cx}{T:Nat→Option TI}(hT:TOk P T){ops:Array Oper}{ps:List Pin}{n:Nat}{E:List Nat}{st:St}{K:St→Prop}(i:Nat){t ty e:TypeId}{x:Operand}{d:Nat}{g:Option (Nat×Bool)}(s:zFp)(l:Nat)(st':St)
  (hop:opAt ops i=some (.call { callee:=.builtin .len,args:= #[x],argTypes:= #[t] },some d,ty,g)) (hok:okE ops ps E i []=true) (hdB:zHL ps (lsd ops E) (some d)=true) (hg:gdT ops st g=true) (hd:Zx st d=true) (ht:zCO T t=some e) (hx:slS st x=some s) (hl:s.es.length=l)
  (hst:st.put d (.val false [.lit (.int .i64 l)])=st') (h2:∀cx',AT P cx' ops ps n (i::E) st' K):AT P cx ops ps (n+1) E st K:=by
 subst hst;subst hl
 exact zJu hop hok hdB hg (fun cx o ho hdst _=>⟨zQH hT ho hdst (qi hd) ht hx,zRs hT ho ht hx⟩) h2
theorem zR1{P:Program}{o:Oper}{a:Act}{w:World}{K:Act→World→Prop}{Q:Exit→Act→World→Prop}(h:o.wp P a w K Q):o.wp P a w (fun a' w'=>K a' w'∧∀t,o.dst≠some t→a'.tmps.getD t undef=a.tmps.getD t undef) Q:=by
 unfold Oper.wp at*
 generalize (execOp a.eval o).run P w=r at*
 cases r with
 | ok n w' =>
  cases n<;>simp only[Oper.upon]at h⊢ <;>
   first
    |exact⟨h,fun t ht=>zAm ht⟩
    |exact Calls.mono h (fun e w'' he=>by cases e<;>first|exact⟨he,fun t ht=>zAm ht⟩|exact he)
    |exact Rows.mono h (fun _ _ he=>⟨he,fun t ht=>zAm ht⟩)
 |halt x w'=>cases x<;>simp only[Oper.upon]at h⊢ <;>exact h
def zRU(st:St)(l:Array Bool)(p:Pin):Option SV:=bif p.live l then lk st.s p.d else some (.tup [])
def zNZ(T:Nat→Option TI)(st:St)(l:Array Bool)(p:Pin):Option SV:=bif p.live l then(match T p.t with
 |none=>none
 | some i => (match lk st.s p.x with
  | some (.adr r q m o) => (match lk st.s p.d with
   |some (.ref _ _ _ _ _ _)=>bif !q.isEmpty&&(zMB st r q m o i.size).isSome then some (.ref r q m o i.size i.ag)else none
   | some (.val _ cs) => (match zFf cs with
    |some _=>(match adS st (.tmp p.x)with
     |some s=>bif ((s.e.drop s.o).take i.size).length==i.size&& !s.r.eqb (.slot p.d)&&Zx st p.d then some (.val i.ag ((s.e.drop s.o).take i.size))else none
     |none=>none)
    |none=>none)
   |_=>none)
  |_=>none))else some (.tup [])
theorem pin_holds{P:Program}{cx:Cx}{T:Nat→Option TI}(hT:TOk P T){st:St}{a:Act}{w:World}{Z:JI}{ω:Own}(h:Rel cx st a w Z ω){l:Array Bool}{p:Pin}(he:zRU st l p=zNZ T st l p)(hs:(zNZ T st l p).isSome=true)(hl:p.live l=true)
  {A:Addr} {v:Value} (hA:a.tmps.getD p.x undef=.pointer (some A)) (hv:a.tmps.getD p.d undef=v):(loadVar p.t A).run P w=.ok v w:=by
 obtain⟨sv,hsv⟩:=Option.isSome_iff_exists.1 hs
 rw[hsv]at he
 unfold zRU at he
 unfold zNZ at hsv
 rw[hl]at he hsv
 simp only[cond_true]at he hsv
 split at hsv
 ·cases hsv
 ·rename_i i hi
  split at hsv
  ·rename_i r q m o hx
   split at hsv
   ·rename_i hd
    cases hc:(!q.isEmpty&&(zMB st r q m o i.size).isSome)with
    |false=>rw[hc]at hsv;cases hsv
    |true=>
     rw[hc]at hsv
     cases hsv
     rw[Bool.and_eq_true]at hc
     obtain⟨c,hc2⟩:=Option.isSome_iff_exists.1 hc.2
     exact zRu hT h hi (fun e=>by rw[e]at hc;cases hc.1) hx he hc2 hA hv
   ·rename_i ag cs hd
    split at hsv
    ·rename_i vs hvs
     split at hsv
     ·rename_i s hs'
      cases hc:(((s.e.drop s.o).take i.size).length==i.size&& !s.r.eqb (.slot p.d)&&Zx st p.d)with
      |false=>rw[hc]at hsv;cases hsv
      |true=>
       rw[hc]at hsv
       simp only[cond_true,Option.some.injEq]at hsv
       subst hsv
       rw[he]at hd
       simp only[Option.some.injEq,SV.val.injEq]at hd
       obtain⟨rfl,rfl⟩:=hd
       simp only[Bool.and_eq_true,Bool.not_eq_true',beq_iff_eq]at hc
       obtain⟨A',v',k1,k2,k3⟩:=zMX hT h (qi hc.2) hi hs' rfl hc.1.1 hc.1.2
       rw[hA]at k1
       cases k1
       rw[zHW hvs]at k3
       simp only[cond_true]at k3
       have e1:=k3.hs p.d (.val i.ag ((s.e.drop s.o).take i.size)) (List.mem_cons_self ..)
       have e2:=h.hs p.d _ (zw he)
       rw[Yq (by rw[h.nt];exact(qi hc.2).2)]at e1
       rw[hv]at e2
       have:=zOK e1.1 e2.1 ((zJz hvs e1.2).trans (zJz hvs e2.2).symm)
       rw[k2,this]
     ·cases hsv
    ·cases hsv
   ·cases hsv
  ·cases hsv
def takeA(ops:Array Oper)(n:Nat):Array Oper:=(ops.toList.take n).toArray
theorem zRx{ops:Array Oper}{n j:Nat}(h:j<n):(takeA ops n)[j]? =ops[j]? :=by
 unfold takeA
 simp[h]
theorem zPz{ops:Array Oper}{i:Nat}{o:Oper}(h:ops[i]? =some o):(takeA ops (i+1)).toList.drop i=[o]:=by
 have h':ops.toList[i]? =some o:=by simpa using h
 obtain⟨hl,he⟩:=List.getElem?_eq_some_iff.1 h'
 unfold takeA
 show(ops.toList.take (i+1)).drop i=[o]
 rw[List.drop_take,Nat.add_sub_cancel_left,List.drop_eq_getElem_cons hl,he]
 rfl
def zSd(ops:Array Oper)(ps:List Pin)(E:List Nat)(i:Nat):Bool:=match ops[i]? with
 |some o=>zHL ps (lsd ops E) o.dst&&(match o.guard with
  |some (j,_)=>Nat.ble j i
  |none=>true)
 |none=>false
def AT1(P:Program)(cx:Cx)(T:Nat→Option TI)(ops:Array Oper)(ps:List Pin)(n:Nat)(E:List Nat)(st:St)(K:St→Prop)(i:Nat):Prop:=
 zSd ops ps E i=true∧LAt P cx (takeA ops (i+1)) i st (fun st'=>(ps.map (zRU st' (lsd ops (i::E)))=ps.map (zNZ T st' (lsd ops (i::E)))∧(ps.all fun p=>(zNZ T st' (lsd ops (i::E)) p).isSome)=true)∧AT P cx ops ps n (i::E) st' K)
theorem zHw{α β:Type}{f g:α→β} :∀ {l:List α},l.map f=l.map g→∀x∈l,f x=g x
 |[],_,x,hx=>by cases hx
 |y::l,h,x,hx=>by
  simp only[List.map_cons,List.cons.injEq]at h
  rcases List.mem_cons.1 hx with e|hx
  ·rw[e];exact h.1
  ·exact zHw h.2 x hx
theorem zOb{P:Program}{cx:Cx}{T:Nat→Option TI}(hT:TOk P T){ops:Array Oper}{ps:List Pin}{n:Nat}{E:List Nat}{st:St}{K:St→Prop}(rs:List Nat)(hr:Region.ready .any ops (lsd ops E)=rs)(hne:rs.isEmpty=false)(h:∀i∈rs,AT1 P cx T ops ps n E st K i):AT P cx ops ps (n+1) E st K:=by
 intro a w Z ω Q L Y hR hY hL hS hK hQ
 refine zP2 hr (fun e=>by rw[e]at hne;cases hne) fun i hi=>?_
 obtain⟨hb,hlat⟩:=h i hi
 unfold zSd at hb
 split at hb
 ·rename_i o ho
  rw[Bool.and_eq_true]at hb
  obtain⟨hd,hg⟩:=hb
  unfold LAt at hlat
  rw[zPz ho]at hlat
  let T1:Act→World→Prop:=fun a' w'=>SL P L Y (lsd ops (i::E)) w'∧wpAnyL P ops Q (SL P L Y) n (lsd ops (i::E)) a' w'
  let Q2:Exit→Act→World→Prop:=fun e a' w'=>match e with
   |.normal=>(∀t,o.dst≠some t→a'.tmps.getD t undef=a.tmps.getD t undef)→T1 a' w'
   |e=>Q e a' w'
  have hlist:=hlat a w Z ω Q2 hR (fun st' a' w' Z' ω' hk hr'=>by
   intro hsl
   obtain⟨⟨hp1,hp2⟩,hat⟩:=hk
   have hL':zK8 L ps (lsd ops (i::E)) a':=by
    refine⟨hL.1,fun p hp hl=>?_⟩
    have hl0:p.1.live (lsd ops E)=true:=zDp hl
    obtain⟨k1,k2⟩:=hL.2 p hp hl0
    unfold zHL at hd
    rw[List.all_eq_true]at hd
    have:=hd p.1 (by rw[←hL.1];exact List.mem_map_of_mem hp)
    simp only[hl0,Bool.not_true,Bool.false_or,Bool.and_eq_true,bne_iff_ne]at this
    rw[hsl _ this.1,hsl _ this.2]
    exact⟨k1,k2⟩
   have hS':SL P L Y (lsd ops (i::E)) w':=⟨hY _ _ _ hr'.inv,fun p hp hl=>by
    have hpm:p.1∈ps:=by rw[←hL.1];exact List.mem_map_of_mem hp
    rw[List.all_eq_true]at hp2
    exact pin_holds hT hr' (zHw hp1 _ hpm) (hp2 _ hpm) hl (hL'.2 p hp hl).1 (hL'.2 p hp hl).2⟩
   exact⟨hS',hat a' w' Z' ω' Q L Y hr' hY hL' hS' hK hQ⟩)
  unfold wpList at hlist
  unfold Go.wpOp
  simp only[ho]
  have hw:Region.wanted o (yielded (takeA ops (i+1)) a.tmps)=Region.wanted o (yielded ops a.tmps):=by
   unfold Region.wanted
   cases hgg:o.guard with
   |none=>rfl
   |some jw=>
    obtain⟨j,want⟩:=jw
    rw[hgg]at hg
    have hji:j<i+1:=Nat.lt_succ_of_le (Nat.le_of_ble_eq_true hg)
    simp only[yielded,zRx hji]
  rw[hw]at hlist
  cases hwd:Region.wanted o (yielded ops a.tmps)with
  | true =>
   rw[hwd]at hlist
   simp only[if_true]at hlist⊢
   rcases hlist with hlist|⟨h1,a2,w2,h2⟩
   ·left
    have h3:=zR1 hlist
    have h4:=Oper.wp_mono (K':=T1) (fun a' w' hh=>hh.1 hh.2) h3
    unfold Oper.wp at h4⊢
    generalize (execOp a.eval o).run P w=r at*
    cases r with
    | ok nx w' =>
     cases nx<;>simp only[Oper.upon]at h4⊢ <;>
      first
       |exact h4
       |exact Calls.mono h4 (fun e w'' he=>by cases e<;>first|exact he|(obtain⟨a3,w3,h3⟩:=he;exact⟨a3,w3,h3⟩))
    |halt x w'=>cases x<;>simp only[Oper.upon]at h4⊢ <;>exact h4
   ·exact .inr ⟨h1,a2,w2,h2⟩
  |false=>
   rw[hwd]at hlist
   simp only[Bool.false_eq_true,if_false]at hlist⊢
   exact hlist fun t ht=>zAm ht
 ·cases hb
theorem zRA{P:Program}{cx:Cx}{T:Nat→Option TI}(hT:TOk P T){ops:Array Oper}{ps:List Pin}{n:Nat}{E:List Nat}{st:St}{K:St→Prop}(i:Nat)(hr:Region.ready .any ops (lsd ops E)=[i])(hb:zSd ops ps E i=true)
  (h:LAt P cx (takeA ops (i+1)) i st (fun st'=>(ps.map (zRU st' (lsd ops (i::E)))=ps.map (zNZ T st' (lsd ops (i::E)))∧(ps.all fun p=>(zNZ T st' (lsd ops (i::E)) p).isSome)=true)∧AT P cx ops ps n (i::E) st' K)):AT P cx ops ps (n+1) E st K:=
 zOb hT [i] hr rfl fun j hj=>by rw[List.mem_singleton]at hj;subst hj;exact⟨hb,h⟩
theorem YJ{P:Program}{cx:Cx}{T:Nat→Option TI}(hT:TOk P T){ops:Array Oper}{ps:List Pin}{n:Nat}{E:List Nat}{st:St}{K:St→Prop}(i j:Nat)(hr:Region.ready .any ops (lsd ops E)=[i,j])(h1:AT1 P cx T ops ps n E st K i)(h2:AT1 P cx T ops ps n E st K j):AT P cx ops ps (n+1) E st K:=
 zOb hT [i,j] hr rfl fun k hk=>by
  rcases List.mem_cons.1 hk with e|hk
  ·subst e;exact h1
  ·rw[List.mem_singleton]at hk;subst hk;exact h2
theorem zMi{P:Program}{cx:Cx}{T:Nat→Option TI}(hT:TOk P T){ops:Array Oper}{ps:List Pin}{n:Nat}{E:List Nat}{st:St}{K:St→Prop}(i j k:Nat)(hr:Region.ready .any ops (lsd ops E)=[i,j,k])(h1:AT1 P cx T ops ps n E st K i)(h2:AT1 P cx T ops ps n E st K j)(h3:AT1 P cx T ops ps n E st K k):AT P cx ops ps (n+1) E st K:=
 zOb hT [i,j,k] hr rfl fun x hx=>by
  rcases List.mem_cons.1 hx with e|hx
  ·subst e;exact h1
  ·rcases List.mem_cons.1 hx with e|hx
   ·subst e;exact h2
   ·rw[List.mem_singleton]at hx;subst hx;exact h3
theorem zS1{P:Program}{cx:Cx}{ops:Array Oper}{i:Nat}{st:St}{K:St→Prop}(h:Nat.ble ops.size i=true)(hk:K st):LAt P cx ops i st K:=by
 unfold LAt
 rw[List.drop_eq_nil_of_le (by simpa using Nat.le_of_ble_eq_true h)]
 exact zAZ.nil hk
theorem zRB{P:Program}{cx:Cx}{ops:Array Oper}{ps:List Pin}{n:Nat}{E:List Nat}{st:St}{K:St→Prop}(ls bs:List Nat)(st':St)(hr:Region.ready .any ops (lsd ops E)=[])(hs:st.pick ls bs=st')(hk:K st'):AT P cx ops ps n E st K:=by
 intro a w Z ω Q L Y hR hY hL hS hK hQ
 exact zO2 hr (hK _ _ _ _ _ hk (hR.sub (za ls bs hs))) _
theorem Rel.drawn{cx:Cx}{st:St}{a:Act}{w:World}{Z:JI}{ω:Own}(h:Rel cx st a w Z ω)(k:Nat):Rel cx st a { w with drawn:=k } Z ω:=
 h.step (fun _=>False) ⟨fun b hb=>⟨hb,rfl⟩,fun r hr b x hb=>⟨hb,rfl⟩,fun t ht=>rfl⟩
  ⟨h.inv.os,h.inv.tape,h.inv.output,h.inv.size,h.inv.keep,h.inv.zsub,h.inv.zold,h.inv.wold,h.inv.disj,h.inv.inj,h.inv.lt,h.inv.zlt⟩ h.nt h.df h.pin
  (fun t sv hm=>.inl ⟨hm,by cases sv<;>simp[SV.apart]⟩) (fun k cs hm=>.inl ⟨hm,fun e=>e⟩)
theorem qr{P:Program}{cx:Cx}{st:St}{id:Nat}{ops:Array Oper}{Q:Exit→St→Prop}(hm:P.follows .mixedOrders=true)(n:Nat)(hn:ops.size=n)(st':St)(h:∀cx',AT P cx' ops [] n [] st (fun s=>s=st'))(hk:Q .normal st'):Tr P cx (.region id ops true) st Q:=fun a w Z ω hR=>by
 subst hn
 refine wp_mono (Q:=fun e a' w'=>e=.normal∧∃Z' ω',Rel cx st' a' w' Z' ω') (wp_region_any hm (zMU (S:=SL P [] fun _=>True) _ _ _ _ ?_)) ?_
 ·exact h cx a { w with drawn:=w.drawn+1 } Z ω _ [] (fun _=>True) (hR.drawn _) (fun _ _ _ _=>trivial) ⟨rfl,fun p hp=>by cases hp⟩ ⟨trivial,fun p hp=>by cases hp⟩ (fun st1 a' w' Z' ω' he hr=>by subst he;exact⟨rfl,_,_,hr⟩) (fun c a w hh=>by cases hh.1)
 ·rintro e a' w' ⟨rfl,Z',ω',hr⟩
  exact⟨st',Z',ω',hk,hr⟩
theorem zd{P:Program}{cx:Cx}{st:St}{id:Nat}{ops:Array Oper}{c:Code}{Q:Exit→St→Prop}(hm:P.follows .mixedOrders=true)(n:Nat)(hn:ops.size=n)(st':St)(h:∀cx',AT P cx' ops [] n [] st (fun s=>s=st'))(hk:Tr P cx c st' Q):Tr P cx (.seq (.region id ops true) c) st Q:=Tr.seq (qr hm n hn st' h hk)
end Go.TL
