import Derived.Test.YticeglbllcelaaaGreatTlEnc
import Derived.Test.YticeglbllcelaaaGreatTlDraw
set_option linter.unusedVariables false
namespace Go.TL
section
variable {P : Program} {ops : Array Oper} {Q : Exit → Act → World → Prop}
def wpAnyL(P:Program)(ops:Array Oper)(Q:Exit→Act→World→Prop)(S:Array Bool→World→Prop):Nat→Array Bool→Act→World→Prop
 |0,listed,a,w=>Region.ready .any ops listed=[]∧Q .normal a w
 |fuel+1,listed,a,w=>
  (Region.ready .any ops listed=[]→Q .normal a w)∧
  ∀i∈Region.ready .any ops listed,wpOp P ops Q i (fun a' w'=>S (listed.setIfInBounds i true) w'∧wpAnyL P ops Q S fuel (listed.setIfInBounds i true) a' w') a w
theorem zMU{S:Array Bool→World→Prop} :∀(fuel:Nat) (listed:Array Bool) (a:Act) (w:World),wpAnyL P ops Q S fuel listed a w→wpAny P .any ops Q fuel listed a w
 |0,_,_,_,h=>h
 |fuel+1,_,_,_,h=>⟨h.1,fun i hi=>wpOp_mono (fun a' w' h'=>zMU fuel _ a' w' h'.2) (h.2 i hi)⟩
theorem zKb{S S':Array Bool→World→Prop}(hS:∀l w,S l w→S' l w):∀(fuel:Nat) (listed:Array Bool) (a:Act) (w:World),wpAnyL P ops Q S fuel listed a w→wpAnyL P ops Q S' fuel listed a w
 |0,_,_,_,h=>h
 |fuel+1,_,_,_,h=>⟨h.1,fun i hi=>wpOp_mono (fun a' w' h'=>⟨hS _ _ h'.1,zKb hS fuel _ a' w' h'.2⟩) (h.2 i hi)⟩
def clL(ops:Array Oper)(l:Array Bool):Prop:=∀(k:Nat) (o:Oper),ops[k]? =some o→l.getD k false=true→∀e∈o.after,Region.binds .any e=true→l.getD e.on false=true
def zLH(ops:Array Oper):Nat→Nat→Nat→Bool
 |0,_,_=>false
 |n+1,k,i=>match ops[k]? with
  |some o=>o.after.any fun e=>Region.binds .any e&&(e.on==i||zLH ops n e.on i)
  |none=>false
theorem zJE{l:Array Bool}(hc:clL ops l):∀(n k i:Nat),zLH ops n k i=true→l.getD k false=true→l.getD i false=true
 |0,_,_,h,_=>by cases h
 | n + 1,k,i,h,hk => by
  unfold zLH at h
  split at h
  ·rename_i o ho
   obtain⟨e,he,hb⟩:=Array.any_eq_true'.1 h
   simp only[Bool.and_eq_true,Bool.or_eq_true,beq_iff_eq]at hb
   have:=hc k o ho hk e he hb.1
   rcases hb.2 with e1|e1
   ·rw[←e1];exact this
   ·exact zJE hc n _ i e1 this
  ·cases h
theorem zSg{l:Array Bool}(hc:clL ops l){j:Nat}(hj:j∈Region.ready .any ops l):clL ops (l.setIfInBounds j true):=by
 obtain⟨h0,oj,hoj,hall⟩:=mem_ready.1 hj
 intro k o ho hk e he hb
 by_cases hjk:j=k
 ·subst hjk
  rw[hoj]at ho;cases ho
  exact getD_set_true (hall e he hb)
 ·rw[getD_set_ne false hjk]at hk
  exact getD_set_true (hc k o ho hk e he hb)
def clB(ops:Array Oper)(l:Array Bool):Bool:=(List.range ops.size).all fun k=> !l.getD k false||match ops[k]? with
 |some o=>o.after.all fun e=> !Region.binds .any e||l.getD e.on false
 |none=>true
theorem zQl{l:Array Bool}(h:clB ops l=true):clL ops l:=by
 unfold clB at h
 rw[List.all_eq_true]at h
 intro k o ho hk e he hb
 have:=h k (List.mem_range.2 (Array.getElem?_eq_some_iff.1 ho).1)
 rw[hk,ho]at this
 simp only[Bool.not_true,Bool.false_or]at this
 have:=Array.all_eq_true_iff_forall_mem.1 this e he
 rw[hb]at this
 simpa using this
theorem zQV{l:Array Bool}{i:Nat}(h:l.getD i true=false):l.getD i false=false:=by
 rcases Nat.lt_or_ge i l.size with h'|h'
 ·simp[h']at h ⊢; exact h
 ·simp[Array.getElem?_eq_none h']at h
theorem wpAnyL_first{i:Nat}{oi:Oper}{v:Value}{W:World→Prop}{D:List Nat}{S S':Array Bool→World→Prop}(hi:ops[i]? =some oi)(hsel:∀(j:Nat) (o:Oper) cs b,ops[j]? =some o→o.op≠ .select cs b)
  (hQ:∀c a w,¬Q (.panic c) a w) (hS1:∀l w,S' l w→S l w) (hS2:∀l w,S (l.setIfInBounds i true) w→S l w) (hS3:∀l w,S l w→S (l.setIfInBounds i true) w)
  (hS4:∀l w,S' l w→(∀k∈D,l.getD k false=false)→W w) (hD:∀k∈D,k≠i∧∀l,clL ops l→l.getD k false=true→l.getD i false=true):
  ∀(fuel:Nat) (listed:Array Bool) (a:Act) (w:World),clL ops listed→
   (∀j oj,ops[j]? =some oj→j≠i→listed.getD j true=false→(∀e∈oj.after,Region.binds .any e=true→e.on≠i)→oi.apart ops oj=true)→
   i∈Region.ready .any ops listed→YieldsIf P ops W oi v a→W w→S listed w→
   wpAnyL P ops Q S' fuel (listed.setIfInBounds i true) (a.put oi.dst v) w→wpAnyL P ops Q S (fuel+1) listed a w:=by
 intro fuel
 induction fuel with
 | zero =>
  intro listed a w hcl _ hr hy hW hS H
  refine⟨fun h=>(by rw[h]at hr;cases hr),fun j hj=>?_⟩
  by_cases hji:j=i
  ·subst hji;exact hy.wpOp hi hW ⟨hS3 _ _ hS,H⟩
  ·have:=ready_mono hj hji
   rw[H.1]at this
   cases this
 | succ fuel ih =>
  intro listed a w hcl hfree hr hy hW hS H
  refine⟨fun h=>(by rw[h]at hr;cases hr),fun j hj=>?_⟩
  by_cases hji:j=i
  ·subst hji;exact hy.wpOp hi hW ⟨hS3 _ _ hS,zKb hS1 _ _ _ _ H⟩
  ·have h1:=H.2 j (ready_mono hj hji)
   obtain⟨hjun,oj,hoj,hall⟩:=mem_ready.1 hj
   have hiun:=(mem_ready.1 hr).1
   have hnot:∀e∈oj.after,Region.binds .any e=true→e.on≠i:=fun e he hb heq=>by
    have h1:=hall e he hb
    rw[heq,zQV hiun]at h1
    cases h1
   have h2:=wpOp_putIf hoj (hfree j oj hoj hji hjun hnot) (fun cs b=>hsel i oi cs b hi) (fun cs b=>hsel j oj cs b hoj) (fun c a w h=>absurd h (hQ _ _ _)) hy h1
   have hfree':∀k ok,ops[k]? =some ok→k≠i→(listed.setIfInBounds j true).getD k true=false→
     (∀e∈ok.after,Region.binds .any e=true→e.on≠i)→oi.apart ops ok=true:=fun k ok hk hki hun hno=>by
    refine hfree k ok hk hki ?_ hno
    by_cases hjk:j=k
    ·subst hjk;exact hjun
    ·rw[getD_set_ne true hjk]at hun;exact hun
   have hcl':=zSg hcl hj
   have hi':(listed.setIfInBounds j true).getD i false=false:=by rw[getD_set_ne false hji];exact zQV hiun
   refine wpOp_mono (fun a' w' h3=>?_) h2
   obtain⟨h3,h4,h5⟩:=h3
   rw[Array.setIfInBounds_comm _ _ (Ne.symm hji)]at h4 h5
   have hW':W w':=hS4 _ _ h4 fun k hk=>by
    obtain⟨hki,hreach⟩:=hD k hk
    rw[getD_set_ne false (Ne.symm hki)]
    cases hc:(listed.setIfInBounds j true).getD k false with
    |false=>rfl
    |true=>have:=hreach _ hcl' hc;rw[hi']at this;cases this
   have hS':=hS2 _ _ (hS1 _ _ h4)
   exact⟨hS',ih (listed.setIfInBounds j true) a' w' hcl' hfree' (ready_mono hr (Ne.symm hji)) h3 hW' hS' h5⟩
theorem zP2{S:Array Bool→World→Prop}{rs:List Nat}{fuel:Nat}{listed:Array Bool}{a:Act}{w:World}(hr:Region.ready .any ops listed=rs)(hne:rs≠ [])
  (h:∀i∈rs,wpOp P ops Q i (fun a' w'=>S (listed.setIfInBounds i true) w'∧wpAnyL P ops Q S fuel (listed.setIfInBounds i true) a' w') a w):wpAnyL P ops Q S (fuel+1) listed a w:=
 ⟨fun h0=>absurd (hr▸h0) hne,hr▸h⟩
theorem zO2{S:Array Bool→World→Prop}{listed:Array Bool}{a:Act}{w:World}(hr:Region.ready .any ops listed=[])(h:Q .normal a w):∀fuel,wpAnyL P ops Q S fuel listed a w
 |0=>⟨hr,h⟩
 |_+1=>⟨fun _=>h,by rw[hr];simp⟩
end
structure Pin where
 D:List Nat
 t:TypeId
 x:Nat
 d:Nat
def lsd(ops:Array Oper)(E:List Nat):Array Bool:=E.foldr (fun i b=>b.setIfInBounds i true) (Array.replicate ops.size false)
def Pin.live(l:Array Bool)(p:Pin):Bool:=p.D.all fun k=> !l.getD k false
abbrev PV:=Pin×Addr×Value
def SL(P:Program)(L:List PV)(Y:World→Prop)(l:Array Bool)(w:World):Prop:=Y w∧∀p∈L,p.1.live l=true→(loadVar p.1.t p.2.1).run P w=.ok p.2.2 w
def zK8(L:List PV)(ps:List Pin)(l:Array Bool)(a:Act):Prop:=(L.map fun p=>p.1)=ps∧∀p∈L,p.1.live l=true→a.tmps.getD p.1.x undef=.pointer (some p.2.1)∧a.tmps.getD p.1.d undef=p.2.2
def AT(P:Program)(cx:Cx)(ops:Array Oper)(ps:List Pin)(n:Nat)(E:List Nat)(st:St)(K:St→Prop):Prop:=
 ∀a w Z ω (Q:Exit→Act→World→Prop) (L:List PV) (Y:World→Prop),Rel cx st a w Z ω→(∀w' Z' ω',Inv cx w' Z' ω'→Y w')→zK8 L ps (lsd ops E) a→SL P L Y (lsd ops E) w→
  (∀st' a' w' Z' ω',K st'→Rel cx st' a' w' Z' ω'→Q .normal a' w')→(∀c a w,¬Q (.panic c) a w)→wpAnyL P ops Q (SL P L Y) n (lsd ops E) a w
theorem zDp{l:Array Bool}{p:Pin}{i:Nat}(h:p.live (l.setIfInBounds i true)=true):p.live l=true:=by
 unfold Pin.live at*
 rw[List.all_eq_true]at*
 intro k hk
 have:=h k hk
 by_cases hki:i=k
 ·subst hki
  rcases Nat.lt_or_ge i l.size with h'|h'
  ·simp[h']at this
  ·simp[Array.getElem?_eq_none h']
 ·rw[getD_set_ne false hki]at this;exact this
theorem zSm{l:Array Bool}{p:Pin}{i:Nat}(hi:p.D.contains i=false)(h:p.live l=true):p.live (l.setIfInBounds i true)=true:=by
 unfold Pin.live at*
 rw[List.all_eq_true]at*
 intro k hk
 have hki:i≠k:=fun e=>by subst e;simp at hi;exact hi hk
 rw[getD_set_ne false hki]
 exact h k hk
theorem Inv.base{cx:Cx}{w:World}{Z:JI}{ω:Own}(h:Inv cx w Z ω):Inv ⟨w,Z,ω,cx.vals⟩ w Z ω:=
 ⟨rfl,rfl,rfl,Nat.le_refl _,fun b _ _=>rfl,fun b hb=>hb,fun b hb _ _=>hb,fun b p hb _ h0=>(by have h0:ω b=none:=h0;rw[hb]at h0;cases h0),h.disj,h.inj,h.lt,h.zlt⟩
theorem Inv.up{cx:Cx}{w w':World}{Z Z':JI}{ω ω':Own}(i:Inv cx w Z ω)(j:Inv ⟨w,Z,ω,cx.vals⟩ w' Z' ω'):Inv cx w' Z' ω':=by
 have hnone:∀b,b<cx.w0.heap.size→cx.ω0 b=none→ω b=none:=fun b hb h0=>by
  cases ho:ω b with
  |none=>rfl
  |some p=>exact absurd h0 (i.wold b p ho hb)
 refine⟨j.os.trans i.os,j.tape.trans i.tape,j.output.trans i.output,Nat.le_trans i.size j.size,fun b hb h0=>?_,fun b hb=>j.zsub b (i.zsub b hb),fun b hb hlt h0=>?_,fun b p hb hlt h0=>?_,j.disj,j.inj,j.lt,j.zlt⟩
 ·exact(j.keep b (Nat.lt_of_lt_of_le hb i.size) (hnone b hb h0)).trans (i.keep b hb h0)
 ·exact i.zold b (j.zold b hb (Nat.lt_of_lt_of_le hlt i.size) (hnone b hlt h0)) hlt h0
 ·have:=j.wold b p hb (Nat.lt_of_lt_of_le hlt i.size)
  exact this (hnone b hlt h0)
theorem Rel.base{cx:Cx}{st:St}{a:Act}{w:World}{Z:JI}{ω:Own}(h:Rel cx st a w Z ω):Rel ⟨w,Z,ω,cx.vals⟩ st a w Z ω:=⟨h.inv.base,h.nt,h.df,h.pin,h.hs,h.hb⟩
theorem Rel.up{cx:Cx}{st':St}{a':Act}{w w':World}{Z Z':JI}{ω ω':Own}(h:Inv cx w Z ω)(h':Rel ⟨w,Z,ω,cx.vals⟩ st' a' w' Z' ω'):Rel cx st' a' w' Z' ω':=⟨h.up h'.inv,h'.nt,h'.df,h'.pin,h'.hs,h'.hb⟩
def okE(ops:Array Oper)(ps:List Pin)(E:List Nat)(i:Nat)(D:List Nat):Bool:=
 Region.noSelect ops&&Region.free .any ops (lsd ops E) i&&(Region.ready .any ops (lsd ops E)).contains i&&clB ops (lsd ops E)&&ps.all (fun p=> !p.D.contains i)&&D.all fun k=> !(k==i)&&zLH ops ops.size k i
theorem AT.take{P:Program}{cx:Cx}{ops:Array Oper}{ps:List Pin}{n:Nat}{E:List Nat}{st:St}{K:St→Prop}{i:Nat}{o:Oper}{D:List Nat}(hi:ops[i]? =some o)(hok:okE ops ps E i D=true){ps':List Pin}{st':St}
  (h1:∀a w Z ω,Rel cx st a w Z ω→∃v Z' ω' W,YieldsIf P ops W o v a∧W w∧Rel ⟨w,Z,ω,cx.vals⟩ st' (a.put o.dst v) w Z' ω'∧
   (∀(L:List PV) (Y:World→Prop),zK8 L ps (lsd ops E) a→SL P L Y (lsd ops E) w→(∀w' Z' ω',Inv ⟨w,Z,ω,cx.vals⟩ w' Z' ω'→Y w')→∃(L':List PV) (Y':World→Prop),(∀l w,SL P L' Y' l w→SL P L Y l w)∧(∀l w,SL P L' Y' l w→(∀k∈D,l.getD k false=false)→W w)∧
    (∀w' Z' ω',Inv ⟨w,Z,ω,cx.vals⟩ w' Z' ω'→Y' w')∧zK8 L' ps' (lsd ops (i::E)) (a.put o.dst v)∧SL P L' Y' (lsd ops (i::E)) w))
  (h2:∀cx',AT P cx' ops ps' n (i::E) st' K):AT P cx ops ps (n+1) E st K:=by
 intro a w Z ω Q L Y hR hY hL hS hK hQ
 obtain⟨v,Z',ω',W,e1,e2,e3,e4⟩:=h1 a w Z ω hR
 obtain⟨L',Y',f1,f2,f3,f4,f5⟩:=e4 L Y hL hS (fun w' Z' ω' hi=>hY w' Z' ω' (hR.inv.up hi))
 unfold okE at hok
 simp only[Bool.and_eq_true,List.all_eq_true,Bool.not_eq_true',beq_eq_false_iff_ne]at hok
 obtain⟨⟨⟨⟨⟨g1,g2⟩,g3⟩,g4⟩,g5⟩,g6⟩:=hok
 have hLD:∀p∈L,p.1.D.contains i=false:=fun p hp=>g5 p.1 (by rw[←hL.1];exact List.mem_map_of_mem hp)
 refine wpAnyL_first (W:=W) (D:=D) hi (Region.noSelect_spec g1) hQ f1 (fun l w h=>⟨h.1,fun p hp hl=>h.2 p hp (zSm (hLD p hp) hl)⟩) (fun l w h=>⟨h.1,fun p hp hl=>h.2 p hp (zDp hl)⟩)
  f2 (fun k hk=>⟨(g6 k hk).1,fun l hc hl=>zJE hc _ _ _ (g6 k hk).2 hl⟩) n _ a w (zQl g4) (Region.free_spec hi g2) (by simpa using g3) e1 e2 hS ?_
 exact h2 _ _ w Z' ω' Q L' Y' e3 f3 f4 f5 (fun st' a' w' Z' ω' hk hr=>hK st' a' w' Z' ω' hk (Rel.up hR.inv hr)) hQ
theorem zAm{a:Act}{d:Option Nat}{v:Value}{t:Nat}(h:d≠some t):(a.put d v).tmps.getD t undef=a.tmps.getD t undef:=by
 cases d with
 |none=>rfl
 |some d=>exact Zq (fun e=>h (by rw[e]))
def zHL(ps:List Pin)(l:Array Bool)(d:Option Nat):Bool:=ps.all fun p=> !p.live l||(d != some p.x&&d != some p.d)
theorem zLu{ps:List Pin}{L:List PV}{l l':Array Bool}{d:Option Nat}{a:Act}{v:Value}(h:zHL ps l d=true)(hL:zK8 L ps l a)(hm:∀p:Pin,p.live l'=true→p.live l=true):zK8 L ps l' (a.put d v):=by
 refine⟨hL.1,fun p hp hl=>?_⟩
 have h1:=hm _ hl
 obtain⟨k1,k2⟩:=hL.2 p hp h1
 unfold zHL at h
 rw[List.all_eq_true]at h
 have:=h p.1 (by rw[←hL.1];exact List.mem_map_of_mem hp)
 simp only[h1,Bool.not_true,Bool.false_or,Bool.and_eq_true,bne_iff_ne]at this
 rw[zAm this.1,zAm this.2]
 exact⟨k1,k2⟩
theorem zLm{P:Program}{L:List PV}{Y:World→Prop}{ops:Array Oper}{E:List Nat}{i:Nat}{w:World}(h:SL P L Y (lsd ops E) w):SL P L Y (lsd ops (i::E)) w:=⟨h.1,fun p hp hl=>h.2 p hp (zDp hl)⟩
theorem zRC{P:Program}{cx:Cx}{ops:Array Oper}{ps:List Pin}{n:Nat}{E:List Nat}{st:St}{K:St→Prop}{i:Nat}{o:Oper}{st':St}(hi:ops[i]? =some o)(hok:okE ops ps E i []=true)(hd:zHL ps (lsd ops E) o.dst=true)(hg:gdT ops st o.guard=true)
  (h:∀cx,zCN P cx o st st') (hp:∀cx,zEN P cx o st) (h2:∀cx',AT P cx' ops ps n (i::E) st' K):AT P cx ops ps (n+1) E st K:=by
 refine AT.take hi hok (fun a w Z ω hR=>?_) h2
 obtain⟨v,Z',ω',k1,k2⟩:=OpY.of (h _) (hp _) a w Z ω hR.base
 refine⟨v,Z',ω',fun _=>True,.inl ⟨zGZ hR hg,fun w' _=>k1 w'⟩,trivial,k2,fun L Y hL hS hY=>⟨L,Y,fun _ _ h=>h,fun _ _ _ _=>trivial,hY,zLu hd hL (fun p=>zDp),zLm hS⟩⟩
theorem AT.skip{P:Program}{cx:Cx}{ops:Array Oper}{ps:List Pin}{n:Nat}{E:List Nat}{st:St}{K:St→Prop}{i:Nat}{o:Oper}{j:Nat}{want:Bool}(hi:ops[i]? =some o)(hok:okE ops ps E i []=true)(hd:zHL ps (lsd ops E) o.dst=true)
  (hg:o.guard=some (j,want)) (hb:gdS ops st j=some (!want)∨gdN ops st j=true) (hdst:∀x,o.dst=some x→st.okD x) (h2:∀cx',AT P cx' ops ps n (i::E) (st.forget o.dst) K):AT P cx ops ps (n+1) E st K:=by
 refine AT.take hi hok (fun a w Z ω hR=>?_) h2
 exact⟨undef,Z,ω,fun _=>True,.inr ⟨zP1 hR hg hb,rfl⟩,trivial,hR.base.forget hdst,fun L Y hL hS hY=>⟨L,Y,fun _ _ h=>h,fun _ _ _ _=>trivial,hY,zLu hd hL (fun p=>zDp),zLm hS⟩⟩
theorem zR2{P:Program}{cx:Cx}{T:Nat→Option TI}(hT:TOk P T){ops:Array Oper}{ps:List Pin}{n:Nat}{E:List Nat}{st:St}{K:St→Prop}{i:Nat}{o:Oper}(hi:ops[i]? =some o)(hok:okE ops ps E i []=true)(hd:zHL ps (lsd ops E) o.dst=true)(hg:gdT ops st o.guard=true)
  {t x d:Nat} {ti:TI} {cs0:List CV} (ho:o.op=.load t (.tmp x)) (hdst:o.dst=some d) (hdo:st.okD d) (ht:T t=some ti) (hx:lk st.s x=some (.fad cs0)) (hl:(cs0.take ti.size).length=ti.size)
  (h2:∀cx',AT P cx' ops ps n (i::E) (st.put d (.val ti.ag (cs0.take ti.size))) K):AT P cx ops ps (n+1) E st K:=by
 refine AT.take hi hok (fun a w Z ω hR=>?_) h2
 obtain⟨b,o',f1,f2,f3,f4⟩:=zHt hR hx
 obtain⟨v,w1,Z',ω',k1,k2⟩:=zPG hT ho hdst hdo ht hx rfl hl a w Z ω hR.base
 have hcell:∀j,j<ti.size→∃u,w.cell? ⟨b,o'+j,none⟩=some u∧u.oneCell'=true:=fun j hj=>by
  have hj':j<cs0.length:=by rw[List.length_take]at hl;omega
  obtain⟨u,u1,u2⟩:=f4 j _ (List.getElem?_eq_getElem hj')
  exact⟨u,u1,u2.one⟩
 let us:List Value:=(List.range ti.size).map fun j=>(w.cell? ⟨b,o'+j,none⟩).getD undef
 have husz:us.length=ti.size:=by simp[us]
 have hus:∀(j:Nat) u,us[j]? =some u→w.cell? ⟨b,o'+j,none⟩=some u∧u.oneCell'=true:=fun j u hu=>by
  have hj:j<ti.size:=by rw[←husz];exact(List.getElem?_eq_some_iff.1 hu).1
  obtain⟨u',e1,e2⟩:=hcell j hj
  simp[us,hj,e1]at hu
  subst hu
  exact⟨e1,e2⟩
 have hload:∀w':World,w'.heap[b]? =w.heap[b]? →∃v',(loadVar t ⟨b,o',none⟩).run P w'=.ok v' w'∧v'.cells.toList=us∧shp ti.ag v':=fun w' hw'=>by
  have hc:∀(j:Nat) u,us[j]? =some u→w'.cell? ⟨b,o'+j,none⟩=some u:=fun j u hu=>by
   have:=(hus j u hu).1
   unfold World.cell? at this⊢
   rw[hw'];exact this
  exact zCU (hT t ti ht) w' b o' us husz hc (fun u hu=>by
   obtain⟨j,hj⟩:=List.mem_iff_getElem?.1 hu
   exact(hus j u hj).2)
 obtain⟨v0,v1,v2,v3⟩:=hload w rfl
 have hrun:∀w',w'.heap[b]? =w.heap[b]? →(execOp a.eval o).run P w'=.ok (.value v0) w':=fun w' hw'=>by
  obtain⟨v',g1,g2,g3⟩:=hload w' hw'
  have:=zOK g3 v3 (g2.trans v2.symm)
  subst this
  exact zKN ho f1 g1
 have hv:v=v0∧w1=w:=by
  have:=hrun w rfl
  rcases k1 with k1|⟨k1,_⟩
  ·rw[this]at k1;cases k1;exact⟨rfl,rfl⟩
  ·rw[this]at k1;cases k1
 obtain⟨rfl,rfl⟩:=hv
 have hkeep:∀w' Z' ω',Inv ⟨w1,Z,ω,cx.vals⟩ w' Z' ω'→w'.heap[b]? =w1.heap[b]? :=fun w' Z' ω' hi=>hi.keep b (hR.inv.zlt b f2) (by
  cases ho:ω b with
  |none=>exact ho
  |some p=>exact absurd ho (hR.inv.disj b p f2))
 refine⟨v,Z',ω',fun w'=>w'.heap[b]? =w1.heap[b]?,.inl ⟨zGZ hR hg,hrun⟩,rfl,k2,fun L Y hL hS hY=>⟨L,fun w'=>Y w'∧w'.heap[b]? =w1.heap[b]?,fun l w h=>⟨h.1.1,h.2⟩,fun l w h _=>h.1.2,
  fun w' Z' ω' hi=>⟨hY w' Z' ω' hi,hkeep w' Z' ω' hi⟩,zLu hd hL (fun p=>zDp),⟨⟨hS.1,rfl⟩,(zLm hS).2⟩⟩⟩
theorem zRh{P:Program}{cx:Cx}{T:Nat→Option TI}(hT:TOk P T){st:St}{t x:Nat}{d:Nat}{i:TI}{s:zO5}{cs:List CV}{a w Z ω}(h:Rel cx st a w Z ω)
  (hd:st.okD d) (ht:T t=some i) (hx:adS st (.tmp x)=some s) (hcs:(s.e.drop s.o).take i.size=cs) (hl:cs.length=i.size) (hr:s.r.eqb (.slot d)=false):
  ∃A v,a.tmps.getD x undef=.pointer (some A)∧(loadVar t A).run P w=.ok v w∧Rel cx (st.put d (.ref s.r s.q s.e.length s.o i.size i.ag)) (a.put (some d) v) w Z ω:=by
 obtain⟨b,cur,T',us0,row,h1,h2,h3,h4,h5,h6,h7,h8⟩:=zEy h hx
 have hcell:∀(j:Nat) c,cs[j]? =some c→∃u,cur[ZH s.q*s.e.length+(s.o+j)]? =some u∧Qg w Z ω (s.r.path++qj s.q++[s.o+j]) u c:=by
  intro j c hc
  rw[←hcs,List.getElem?_take]at hc
  split at hc
  ·rw[List.getElem?_drop]at hc
   exact h8 _ c hc
  ·cases hc
 obtain⟨us,u1,u2,u3,u4⟩:=zJW hl (fun j=>cur[ZH s.q*s.e.length+(s.o+j)]?) (fun j=>s.r.path++qj s.q++[s.o+j]) hcell
 obtain⟨v,hv,hvc,hvs⟩:=zCU (hT t i ht) w b (ZH s.q*s.e.length+s.o) us u1 (fun j u hu=>by rw[zDH h3,Nat.add_assoc];exact u2 j u hu) u3
 refine⟨_,v,h1,hv,h.put_same hd ?_⟩
 refine⟨hvs,?_,fun j u hu=>?_⟩
 ·rw[←Array.length_toList,hvc,u1]
 ·have hu':us[j]? =some u:=by rw[←hvc];simpa using hu
  cases hq:s.q with
  |nil=>exact absurd hq h4
  |cons y q=>
   rw[←hq]
   have:=u2 j u hu'
   unfold CellIs
   rw[hq]at h2 this⊢
   exact⟨b,cur,T',h2,h3,this⟩
def ldV(ti:TI)(s:zO5)(cs:List CV):SV:=match zFf cs with
 |some _=>.val ti.ag cs
 |none=>.ref s.r s.q s.e.length s.o ti.size ti.ag
theorem zHW:∀ {cs:List CV} {vs:List Value},zFf cs=some vs→zZ cs=true
 |[],vs,h=>rfl
 | .lit v :: cs,vs,h => by
  simp only[zFf]at h
  split at h
  ·rename_i vs' h'
   have:=zHW h'
   rw[qp,List.all_cons,Bool.and_eq_true]
   rw[qp]at this
   exact⟨rfl,this⟩
  ·cases h
 |.sl _ _ _::cs,vs,h=>by cases h
 |.dead::cs,vs,h=>by cases h
theorem zSn{P:Program}{cx:Cx}{T:Nat→Option TI}(hT:TOk P T){st:St}{t x:Nat}{d:Nat}{i:TI}{s:zO5}{cs:List CV}{a w Z ω}(h:Rel cx st a w Z ω)
  (hd:st.okD d) (ht:T t=some i) (hx:adS st (.tmp x)=some s) (hcs:(s.e.drop s.o).take i.size=cs) (hl:cs.length=i.size) (hr:s.r.eqb (.slot d)=false):
  ∃A v,a.tmps.getD x undef=.pointer (some A)∧(loadVar t A).run P w=.ok v w∧Rel cx (st.put d (ldV i s cs)) (a.put (some d) v) w Z ω:=by
 unfold ldV
 cases hv:zFf cs with
 |none=>exact zRh hT h hd ht hx hcs hl hr
 |some vs=>
  have:=zMX hT h hd ht hx hcs hl hr
  rw[zHW hv]at this
  exact this
theorem zR3{P:Program}{cx:Cx}{T:Nat→Option TI}(hT:TOk P T){ops:Array Oper}{ps:List Pin}{n:Nat}{E:List Nat}{st:St}{K:St→Prop}{i:Nat}{o:Oper}{D:List Nat}(hi:ops[i]? =some o)(hok:okE ops ps E i D=true)(hg:gdT ops st o.guard=true)
  {t x d:Nat} {ti:TI} {s:zO5} {cs:List CV} (hd:zHL ps (lsd ops E) o.dst=true) (ho:o.op=.load t (.tmp x)) (hdst:o.dst=some d) (hdo:st.okD d) (hxd:d≠x) (hdn:d<st.n) (ht:T t=some ti) (hx:adS st (.tmp x)=some s) (hcs:(s.e.drop s.o).take ti.size=cs) (hl:cs.length=ti.size) (hr:s.r.eqb (.slot d)=false)
  (h2:∀cx',AT P cx' ops (⟨D,t,x,d⟩::ps) n (i::E) (st.put d (ldV ti s cs)) K):AT P cx ops ps (n+1) E st K:=by
 refine AT.take hi hok (fun a w Z ω hR=>?_) h2
 obtain⟨A,v,k1,k2,k3⟩:=zSn hT hR.base hdo ht hx hcs hl hr
 refine⟨v,Z,ω,fun w'=>(loadVar t A).run P w'=.ok v w',.inl ⟨zGZ hR hg,fun w' hw'=>zKN ho k1 hw'⟩,k2,by rw[hdst];exact k3,fun L Y hL hS hY=>⟨(⟨D,t,x,d⟩,A,v)::L,Y,fun l w h=>⟨h.1,fun p hp=>h.2 p (List.mem_cons_of_mem _ hp)⟩,fun l w h hl=>?_,hY,?_,?_⟩⟩
 ·refine h.2 _ List.mem_cons_self ?_
  unfold Pin.live
  rw[List.all_eq_true]
  intro k hk
  rw[hl k hk];rfl
 ·have h0:=zLu (v:=v) hd hL (fun p=>zDp (i:=i))
  refine⟨by rw[List.map_cons,h0.1],fun p hp hl=>?_⟩
  rcases List.mem_cons.1 hp with e|hp
  ·subst e
   rw[hdst]
   exact⟨(Zq (Ne.symm hxd)).trans k1,Yq (by rw[hR.nt];exact hdn)⟩
  ·exact h0.2 p hp hl
 ·refine⟨hS.1,fun p hp hl=>?_⟩
  rcases List.mem_cons.1 hp with e|hp
  ·subst e;exact k2
  ·exact(zLm hS).2 p hp hl
end Go.TL
