import Derived.Test.YticeglbllcelaaaGreatTlQ
set_option linter.unusedVariables false
namespace Go.TL
theorem zN7{w w':World}{Z Z':JI}{ω ω':Own}{f:List CV→List CV}{bad:Nat→Prop}(hz:∀b,Z b→Z' b∧w'.heap[b]? =w.heap[b]?):∀(q:List (Nat×Nat)) (p:Zu) (us:List Value) (cs e:List CV),Ze w Z ω p us cs→zAM cs q=some e→(f e).length=e.length→
    (∀us',Ze w Z ω (p++qj q) us' e→(q=[]→us'=us)→(q≠ []→∃b cur T,ω b=some (p++spine q)∧w.heap[b]? =some (.cells cur T (0,0))∧∀(j:Nat) u,us'[j]? =some u→cur[ZH q*e.length+j]? =some u)→Ze w' Z' ω' (p++qj q) us' (f e))→
    (∀b r,ω b=some (p++r)→¬(∃k x,r=qj q++k::x∧bad k)→ω' b=some (p++r)∧w'.heap[b]? =w.heap[b]?)→Ze w' Z' ω' p us (zC1 f cs q)
  | [],p,us,cs,e,h,hg,hl,hf,hω => by
    simp only[zAM,Option.some.injEq]at hg
    subst hg
    simp only[qj,List.append_nil]at hf
    exact hf us h (fun _=>rfl) (fun h=>absurd rfl h)
  | (j,i) :: q,p,us,cs,e,h,hg,hl,hf,hω => by
    obtain⟨sz,es,e1,h1,h2,h3⟩:=zBA hg
    rw[zAG h1 h2]
    refine⟨by rw[List.length_set];exact h.1,fun j' c u hc hu=>?_⟩
    by_cases hj:j'=j
    · subst hj
      have hjl:j'<cs.length:=(List.getElem?_eq_some_iff.1 h1).1
      rw[List.getElem?_set_self hjl]at hc
      cases hc
      have hR:=h.2 j' _ u h1 hu
      have hne:es≠ []:=by intro h0;rw[h0]at h2;cases h2
      obtain⟨b1,cap,us',cur,T,rfl,hω1,hb1,hcap,hm,hcs,hsz,hcc,hr⟩:=hR.own_inv hne
      have hil:i<es.length:=(List.getElem?_eq_some_iff.1 h2).1
      have hes:e1.length=sz:=hsz e1 (List.mem_of_getElem? h2)
      have hrow:=Qg.row h2 hr hsz
      have hown1:ω' b1=some (p++[j'])∧w'.heap[b1]? =w.heap[b1]? :=by
        refine hω b1 [j'] hω1 ?_
        rintro⟨k,x,hk,_⟩
        simp[qj]at hk
      have ih:=zN7 (f:=f) (w':=w') (Z':=Z') (ω':=ω') (bad:=bad) hz q _ _ e1 e hrow h3 hl
        (fun us2 hu2 hq1 hq2=>by
          have hpath:p++qj ((j',i)::q)=p++[j']++[i]++qj q:=by simp[qj]
          rw[←hpath]at hu2⊢
          refine hf us2 hu2 (fun h=>by cases h) (fun _=>?_)
          cases q with
          | nil =>
            have hus:=hq1 rfl
            subst hus
            simp only[zAM,Option.some.injEq]at h3
            subst h3
            refine⟨b1,cur,T,by rw[hω1];rfl,hb1,fun j2 u2 hu=>?_⟩
            have hj2:j2<e1.length:=by have:=(List.getElem?_eq_some_iff.1 hu).1;simpa using this
            rw[List.getElem?_map,List.getElem?_range hj2]at hu
            simp only[Option.map_some,Option.some.injEq]at hu
            subst hu
            have:=hcc i j2 e1[j2] (JM h2 (List.getElem?_eq_getElem hj2))
            simpa [ZH,hes]using this
          | cons y q =>
            obtain⟨b,cur2,T2,g1,g2,g3⟩:=hq2 (by simp)
            exact⟨b,cur2,T2,by rw[g1];simp[spine],g2,fun j2 u2 hu=>by have:=g3 j2 u2 hu;simpa [ZH]using this⟩)
        (fun b0 r hb0 hn=>by
          have:=hω b0 ([j',i]++r) (by rw[hb0];simp) (by
            rintro⟨k,x,hk,hb⟩
            refine hn ⟨k,x,?_,hb⟩
            simpa [qj]using hk)
          rw[this.1]
          exact⟨by simp,this.2⟩)
      have hlen:(es.set i (zC1 f e1 q)).length=es.length:=List.length_set
      rw[←hlen]
      have hl1:(zC1 f e1 q).length=e1.length:=by have:=ih.1;simp at this;exact this.symm
      have hsz':∀e∈es.set i (zC1 f e1 q),e.length=sz:=fun e he=>by
        rcases List.mem_or_eq_of_mem_set he with he|rfl
        · exact hsz e he
        · rw[hl1];exact hes
      refine .own _ b1 cap sz _ us' cur T hown1.1 (hown1.2.trans hb1) (by rw[hlen];exact hcap) hm hcs hsz' ?_ ?_
      · intro i' j2 c hc
        obtain⟨e',g1,g2⟩:=JZ hc
        by_cases hi:i'=i
        · subst hi
          rw[List.getElem?_set_self hil]at g1
          cases g1
          have hj2:j2<e1.length:=by
            have:=(List.getElem?_eq_some_iff.1 g2).1
            omega
          exact hcc i' j2 e1[j2] (JM h2 (List.getElem?_eq_getElem hj2))
        · rw[List.getElem?_set_ne (Ne.symm hi)]at g1
          exact hcc i' j2 c (JM g1 g2)
      · intro i' j2 c hc
        obtain⟨e',g1,g2⟩:=JZ hc
        by_cases hi:i'=i
        · subst hi
          rw[List.getElem?_set_self hil]at g1
          cases g1
          have hj2:j2<e1.length:=by
            have:=(List.getElem?_eq_some_iff.1 g2).1
            omega
          have:=ih.2 j2 c (us' i' j2) g2 (by rw[List.getElem?_map,List.getElem?_range hj2];rfl)
          simpa using this
        · rw[List.getElem?_set_ne (Ne.symm hi)]at g1
          refine(hr i' j2 c (JM g1 g2)).conv _ hz fun b0 r hb0=>?_
          have:=hω b0 ([j']++[i',j2]++r) (by rw[hb0];simp) (by
            rintro⟨k,x,hk,_⟩
            simp only[qj]at hk
            simp at hk
            exact hi hk.1)
          rw[this.1]
          exact⟨by simp,this.2⟩
    · rw[List.getElem?_set_ne (Ne.symm hj)]at hc
      refine(h.2 j' c u hc hu).conv _ hz fun b0 r hb0=>?_
      have:=hω b0 ([j']++r) (by rw[hb0];simp) (by
        rintro⟨k,x,hk,_⟩
        simp only[qj]at hk
        simp at hk
        exact hj hk.1)
      rw[this.1]
      exact⟨by simp,this.2⟩
def OpT(P:Program)(cx:Cx)(o:Oper)(st:St)(K:St→Prop):Prop:=
  ∀a w Z ω (next:Act→World→Prop) (Q:Exit→Act→World→Prop),Rel cx st a w Z ω→(∀st' a' w' Z' ω',K st'→Rel cx st' a' w' Z' ω'→next a' w')→o.wp P a w next Q
theorem zCN.opT{P:Program}{cx:Cx}{o:Oper}{st st':St}{K:St→Prop}(h:zCN P cx o st st')(hK:K st'):OpT P cx o st K:=by
  intro a w Z ω next Q hR hn
  obtain⟨v,w',Z',ω',hr,hR'⟩:=h a w Z ω hR
  unfold Oper.wp
  rcases hr with hr|⟨hr,rfl⟩
  · rw[hr];exact hn _ _ _ _ _ hK hR'
  · rw[hr];exact hn _ _ _ _ _ hK hR'
def zOV(l:YK)(out:List CV):List CV→List CV:=bif l.ptr then(fun _=>out)else setAt l.o out
def zD8(r:zn)(n:Nat):List (Nat×SV)→List (Nat×SV)
  |[]=>[]
  | (t,sv) :: l => match sv with
    |.ref r' q m o k ag=>bif r'.eqb r&& !q.isEmpty&&Nat.ble q.length n then(t,.ref r' q m o k ag)::zD8 r n l else zD8 r n l
    |_=>zD8 r n l
theorem zGV{r:zn}{n t:Nat}{sv:SV} :∀ {l:List (Nat×SV)},(t,sv)∈zD8 r n l→(t,sv)∈l∧∃q m o k ag,sv=.ref r q m o k ag∧q≠ []∧q.length≤n
  |[],h=>by cases h
  | (t',sv') :: l,h => by
    have up:(t,sv)∈zD8 r n l→(t,sv)∈(t',sv')::l∧∃q m o k ag,sv=.ref r q m o k ag∧q≠ []∧q.length≤n:=fun h=>
      ⟨List.mem_cons_of_mem _ (zGV h).1,(zGV h).2⟩
    simp only[zD8]at h
    split at h
    · rename_i r' q m o k ag
      cases hc:(r'.eqb r&& !q.isEmpty&&Nat.ble q.length n)with
      |false=>simp only[hc,cond_false]at h;exact up h
      | true =>
        simp only[hc,cond_true]at h
        rcases List.mem_cons.1 h with e|h
        · cases e
          simp only[Bool.and_eq_true,zAj]at hc
          obtain⟨⟨h1,h2⟩,h3⟩:=hc
          subst h1
          exact⟨List.mem_cons_self,q,m,o,k,ag,rfl,by simpa using h2,by simpa using h3⟩
        · exact up h
    · exact up h
def zCP(st:St)(ld:Option YK)(outs:List (Nat×List CV)):Option St:=match ld with
  |none=>some st
  | some l => match lk outs l.i with
    | some out => bif out.length == l.n then (match st.modR false l.r l.q (zOV l out) with
      |some st'=>some { st' with s:=st'.s++bif l.ptr then []else zD8 l.r l.q.length st.s }
      |none=>none)else none
    |none=>none
theorem zPF{P:Program}{cx:Cx}{T:Nat→Option TI}{st st1 st2 st3:St}{o:Oper}{f:FuncId}{as:Array Operand}{xs:List (Mode×TypeId×Operand)}{ows:List (Option (Bool×List CV))}
    {ps:List JX} {brs:List zn} {ld:Option YK} {rets:List Ret} {outs:List (Nat×List CV)}
    (hexec0 : ∀ (a : Act) (w : World) (Z : JI) (ω : Own), Rel cx st a w Z ω → ∀ fn : Func, P.funcs[f]? = some fn → (fn.name == "runtime.NumGoroutine") = false → fn.body.isNone = false → (execOp a.eval o).run P w = .ok (.enter f (as.map a.eval)) w) (hxs : as.toList = xs.map fun x => x.2.2) (hcons : zCQ T xs 0 st = some (ows, st1)) (hargs : zFU T st1 xs ows 0 = some (ps, brs, ld))
    (hbr:∀l,ld=some l→l.r∉brs) (hL:zb P f ps rets outs) (hmine:brs=[]∨((∀r∈rets,r.mine)∧∀i out,(i,out)∈outs→z5 out)) (hback:zCP st1 ld outs=some st2) (hput:zFv st2 o.dst rets=some st3)
    {K:St→Prop} (hK:K st3):OpT P cx o st K:=by
  intro a w Z ω next Q hR hn
  obtain⟨⟨fn,hfn,hname,hbody⟩,hL⟩:=hL
  obtain⟨Z1,ω1,h1,hn1,hlen1,hz1,hown1,_⟩:=zDu (a:=a) (w:=w) xs 0 st Z ω ows st1 hR hcons
  let Kp:Nat→Bool:=fun k=>match ows[k]? with|some (some _)=>true|_=>false
  have h2:=h1.keep2 Kp
  have hown2:∀(k:Nat) m ty x ag cs,xs[k]? =some (m,ty,x)→ows[k]? =some (some (ag,cs))→shp ag (a.eval x)∧Ze w Z1 (zL4 Kp ω1) [2,0+k] (a.eval x).cells.toList cs:=by
    intro k m ty x ag cs e1 e2
    obtain⟨g1,g2⟩:=hown1 k m ty x ag cs e1 e2
    refine⟨g1,g2.conv _ (fun b hb=>⟨hb,rfl⟩) fun b r hb=>⟨?_,rfl⟩⟩
    have hk:Kp (0+k)=true:=by simp only[Kp,Nat.zero_add,e2]
    exact zQv hb hk
  generalize hω2:zL4 Kp ω1=ω2 at h2 hown2
  have h2two:∀b r,ω2 b=some (2::r)→∃k r',r=k::r'∧Kp k=true:=fun b r hb=>by rw[←hω2]at hb;exact(zGh hb).2 r rfl
  have hlent:∀l,ld=some l→∃k ty t p,l.i=k∧xs[k]? =some (.lend,ty,.tmp t)∧ps[k]? =some p∧zP7 st1 l t p:=by
    intro l hl
    subst hl
    obtain⟨k,ty,t,p,g1,g2,g3,g4⟩:=zLr xs ows 0 ps brs l hargs
    exact⟨k,ty,t,p,by omega,g2,g3,g4⟩
  have hKlend:∀l,ld=some l→Kp l.i=false:=by
    intro l hl
    obtain⟨k,ty,t,p,g1,g2,g3,g4⟩:=hlent l hl
    subst g1
    have:∀(xs:List (Mode×TypeId×Operand)) (i:Nat) (st:St) ows st',zCQ T xs i st=some (ows,st')→∀(k:Nat) ty x,xs[k]? =some (.lend,ty,x)→ows[k]? =some none:=by
      intro xs
      induction xs with
      |nil=>intro i st ows st' _ k ty x hk;simp at hk
      | cons y xs ih =>
        obtain⟨m,ty0,x0⟩:=y
        intro i st ows st' hc k ty x hk
        cases k with
        | zero =>
          simp only[List.getElem?_cons_zero,Option.some.injEq,Prod.mk.injEq]at hk
          obtain⟨rfl,rfl,rfl⟩:=hk
          simp only[zCQ]at hc
          split at hc
          · cases hc;rfl
          · cases hc
        | succ k =>
          simp only[List.getElem?_cons_succ]at hk
          have key:∀st0 l',zCQ T xs (i+1) st0=some (l',st')→∀y,ows=y::l'→ows[k+1]? =some none:=fun st0 l' h0 y e=>by
            rw[e,List.getElem?_cons_succ];exact ih _ _ _ _ h0 k ty x hk
          simp only[zCQ]at hc
          split at hc
          · split at hc
            · split at hc
              · rename_i h0;cases hc;exact key _ _ h0 _ rfl
              · cases hc
            · cases hc
          · split at hc
            · split at hc
              · rename_i ag cs hlk
                cases hf:zZ cs with
                | true =>
                  simp only[hf,cond_true]at hc
                  split at hc
                  · rename_i h0;cases hc;exact key _ _ h0 _ rfl
                  · cases hc
                | false =>
                  simp only[hf,cond_false]at hc
                  split at hc
                  · rename_i h0;cases hc;exact key _ _ h0 _ rfl
                  · cases hc
              · split at hc
                · rename_i h0;cases hc;exact key _ _ h0 _ rfl
                · cases hc
            · split at hc
              · rename_i h0;cases hc;exact key _ _ h0 _ rfl
              · cases hc
          · split at hc
            · rename_i h0;cases hc;exact key _ _ h0 _ rfl
            · cases hc
    have:=this xs 0 st ows st1 hcons l.i ty (.tmp t) g2
    simp only[Kp,this]
  have hgOk:∀l,ld.map YK.lent=some l→l.Ok ω2:=by
    intro l hl
    cases hld:ld with
    |none=>rw[hld]at hl;cases hl
    | some l0 =>
      rw[hld]at hl
      simp only[Option.map_some,Option.some.injEq]at hl
      subst hl
      have hk:=hKlend l0 hld
      cases hp:l0.ptr with
      | true =>
        have e:l0.lent=⟨[1],l0.r.num,1,[1],l0.i⟩:=by simp[YK.lent,hp]
        rw[e]
        exact⟨fun k r h=>by simp at h,fun k r h=>by simp at h,fun b r j x _ _ h=>by simp at h⟩
      | false =>
        have e:l0.lent=⟨l0.r.path++qj l0.q,l0.o,l0.n,[0,l0.i],0⟩:=by simp[YK.lent,hp]
        rw[e]
        refine⟨fun k r h=>?_,fun k r h=>by simp at h,fun b r j x _ hb h=>?_⟩
        · rw[List.append_assoc]at h
          cases hr:l0.r<;>rw[hr]at h<;>simp[zn.path]at h
        · obtain⟨k',r',e1,e2⟩:=h2two b r hb
          subst e1
          simp at h
          rw[h.1]at e2
          rw[hk]at e2
          cases e2
  have hroot':∀r x,(∀l,ld=some l→r≠l.r)→goP (ld.map YK.lent) (zn.path r++x)=none:=by
    intro r x hr
    have htwo:∀(p:Zu),p=zn.path r++x→(match p with|2::y=>some (0::y)|_=>(none:Option Zu))=none:=by
      intro p hp
      cases r<;>(rw[hp];rfl)
    cases hld:ld with
    |none=>simp only[goP,Option.map_none,Option.bind_none];exact htwo _ rfl
    | some l0 =>
      have hne:=hr l0 hld
      have hin:inR l0.lent.S l0.lent.o l0.lent.n (r.path++x)=none:=by
        cases hp:l0.ptr with
        | true =>
          have e:l0.lent=⟨[1],l0.r.num,1,[1],l0.i⟩:=by simp[YK.lent,hp]
          obtain⟨k,ty,t,p,g1,g2,g3,g4⟩:=hlent l0 hld
          rcases g4 with⟨_,kb,cs,e1,_⟩|⟨e1,_⟩
          · rw[e]
            refine qS fun j r' h hj=>?_
            have hj0:j=0:=by simp at hj;exact hj
            subst hj0
            rw[e1]at h hne
            simp only[zn.num,Nat.add_zero]at h
            have:=Zw (r:=r) (s:=.box kb) (x:=x) (y:=r') (by rw[h];rfl)
            exact hne this.1
          · rw[hp]at e1;cases e1
        | false =>
          have e:l0.lent=⟨l0.r.path++qj l0.q,l0.o,l0.n,[0,l0.i],0⟩:=by simp[YK.lent,hp]
          rw[e]
          exact Y2 hne
      simp only[goP,Option.map_some,Option.bind_some,hin,Option.map_none]
      exact htwo _ rfl
  have hroot:∀r x,r∈brs→goP (ld.map YK.lent) (zn.path r++x)=none:=fun r x hr=>hroot' r x fun l hl e=>hbr l hl (by rw[←e];exact hr)
  obtain⟨hpl,hps⟩:=zKF h2 hgOk hbr hroot xs ows 0 ps brs ld hargs (fun r h=>h) (fun l h=>h) hown2
  have hInvC:Inv ⟨w,zMQ Z1 ω2 brs,zEO (ld.map YK.lent) ω2,as.map a.eval⟩ w (zMQ Z1 ω2 brs) (zEO (ld.map YK.lent) ω2):=by
    refine { os:=rfl,tape:=rfl,output:=rfl,size:=Nat.le_refl _,keep:=fun _ _ _=>rfl,zsub:=fun _ h=>h,zold:=fun b hb _ _=>hb,wold:=fun b p hb _=>by show zEO (ld.map YK.lent) ω2 b≠none;rw[hb];simp,disj:=fun b p hz hb=>?_,
             inj:=zRp hgOk h2.inv.inj,lt:=fun b p hb=>?_,zlt:=fun b hb=>?_ }
    · unfold zEO at hb
      rcases hz with hz|⟨r,x,hr,hz⟩
      · cases hω:ω2 b with
        |none=>rw[hω]at hb;cases hb
        |some q=>exact h2.inv.disj b q hz hω
      · rw[hz]at hb
        simp only[Option.bind_some,hroot r x hr]at hb
        cases hb
    · unfold zEO at hb
      cases hω:ω2 b with
      |none=>rw[hω]at hb;cases hb
      |some q=>exact h2.inv.lt b q hω
    · rcases hb with hb|⟨r,x,_,hb⟩
      · exact h2.inv.zlt b hb
      · exact h2.inv.lt b _ hb
  have hasz:as.size=xs.length:=by rw[←Array.length_toList,hxs,List.length_map]
  have hvals:∀(k:Nat) m ty x,xs[k]? =some (m,ty,x)→(as.map a.eval)[k]? =some (a.eval x):=by
    intro k m ty x hk
    rw[Array.getElem?_map,←Array.getElem?_toList,hxs,List.getElem?_map,hk]
    rfl
  have hcall:=hL w (zMQ Z1 ω2 brs) (zEO (ld.map YK.lent) ω2) (as.map a.eval) hInvC (by rw[Array.size_map,hasz,hpl]) (fun i arg hi=>by
    obtain⟨m,ty,x,g1,g2⟩:=hps i arg hi
    rw[Nat.zero_add]at g2
    exact⟨a.eval x,hvals i m ty x g1,g2⟩)
  have hexec:(execOp a.eval o).run P w=.ok (.enter f (as.map a.eval)) w:=hexec0 a w Z ω hR fn hfn hname hbody
  unfold Oper.wp
  rw[hexec,Oper.upon_enter]
  refine hcall.mono fun e w' ⟨v,Z',ω',he,hinv',hret,hout⟩=>?_
  subst he
  show next (a.put o.dst v) w'
  have hZc:∀b,Z1 b→zMQ Z1 ω2 brs b:=fun b hb=>.inl hb
  have inv3:=h2.inv.back hgOk hinv' hZc
  have hz3:brs=[]→∀b,Z' b→zK3 w Z1 Z' (ld.map YK.lent) ω2 b:=by
    intro hbrs b hb
    by_cases hlt:b<w.heap.size
    · by_cases hnone:zEO (ld.map YK.lent) ω2 b=none
      · left
        have:=hinv'.zold b hb hlt hnone
        rcases this with h|⟨r,x,hr,_⟩
        · exact h
        · rw[hbrs]at hr;cases hr
      · exact .inr ⟨hb,.inr hnone⟩
    · exact .inr ⟨hb,.inl (by omega)⟩
  have hkeep:∀b p,ω2 b=some p→goP (ld.map YK.lent) p=none→ownB (ld.map YK.lent) ω2 ω' b=some p∧w'.heap[b]? =w.heap[b]? :=by
    intro b p hb hp
    have hnone:zEO (ld.map YK.lent) ω2 b=none:=by simp[zEO,hb,hp]
    have hlt:=h2.inv.lt b p hb
    have hn':ω' b=none:=by
      cases hω:ω' b with
      |none=>rfl
      |some q=>exact absurd hnone (hinv'.wold b q hω hlt)
    refine⟨by simp[ownB,hn',hb,hp],hinv'.keep b hlt hnone⟩
  have hzk:∀b,Z1 b→zK3 w Z1 Z' (ld.map YK.lent) ω2 b∧w'.heap[b]? =w.heap[b]? :=by
    intro b hb
    refine⟨.inl hb,hinv'.keep b (h2.inv.zlt b hb) ?_⟩
    cases hω:ω2 b with
    |none=>simp[zEO,hω]
    |some p=>exact absurd hω (h2.inv.disj b p hb)
  have hback2:∀b r,ω' b=some (2::r)→ownB (ld.map YK.lent) ω2 ω' b=some (2::r):=fun b r hb=>by simp only[ownB,hb];exact zQk hgOk
  have hret3:zGK w' (zK3 w Z1 Z' (ld.map YK.lent) ω2) (ownB (ld.map YK.lent) ω2 ω') v rets:=hret.conv (hmine.imp hz3 fun h=>h.1) hback2
  have hst2:Rel cx st2 a w' (zK3 w Z1 Z' (ld.map YK.lent) ω2) (ownB (ld.map YK.lent) ω2 ω'):=by
    cases hld:ld with
    | none =>
      simp only[hld]at*
      simp only[zCP,Option.some.injEq]at hback
      subst hback
      exact h2.step (fun _=>False) ⟨hzk,fun r _ b x hb=>hkeep b _ hb (hroot' r x fun l e=>by cases e),fun _ _=>rfl⟩ inv3 h2.nt h2.df h2.pin (fun t sv hm=>.inl ⟨hm,by cases sv<;>simp[SV.apart]⟩) (fun k cs hm=>.inl ⟨hm,fun h=>h⟩)
    | some l =>
      rw[hld]at hback
      simp only[zCP]at hback
      split at hback
      · rename_i out hlk
        cases hol:out.length==l.n with
        |false=>simp[hol]at hback
        | true =>
          simp only[hol,cond_true]at hback
          split at hback
          rotate_left
          · cases hback
          rename_i st2' hback2
          simp only[Option.some.injEq]at hback
          subst hback
          replace hback:=hback2
          have hol':out.length=l.n:=by simpa using hol
          have hmem:=zw hlk
          have hO:=hout l.i out hmem
          obtain⟨k,ty,t,p,g1,g2,g3,g4⟩:=hlent l hld
          subst g1
          have hmo:(∀b,Z' b→zK3 w Z1 Z' (ld.map YK.lent) ω2 b)∨z5 out:=hmine.imp hz3 fun h=>h.2 _ _ hmem
          have hvl:=hvals l.i .lend ty (.tmp t) g2
          rw[←hld]
          have hro:∀r',r'≠l.r→∀b x,ω2 b=some (r'.path++x)→ownB (ld.map YK.lent) ω2 ω' b=some (r'.path++x)∧w'.heap[b]? =w.heap[b]? :=
            fun r' hr' b x hb=>hkeep b _ hb (hroot' r' x fun l' hl'=>by rw[hld]at hl';cases hl';exact hr')
          rcases g4 with⟨hp,kb,cs,e1,e2,e3,e4,e5,e6⟩|⟨hp,m,ag,c,e1,e2,e3⟩
          ·
            subst e5
            unfold zJH at hO
            rw[g3]at hO
            obtain⟨⟨u,hu⟩,b,hb1,hb2⟩:=hO
            have hcl:out.length=cs.length:=by rw[hol',e6]
            have hlf:zOV l out=fun _=>out:=by simp[zOV,hp]
            have hlent':l.lent=⟨[1],kb,1,[1],l.i⟩:=by simp[YK.lent,hp,e1,zn.num]
            have hgo:∀b r,ω' b=some ([1,l.i]++r)→ownB (ld.map YK.lent) ω2 ω' b=some ([1,kb]++r):=by
              intro b r hb
              simp only[ownB,hb,hld,Option.map_some,hlent']
              have:=zLt (l:=⟨[1],kb,1,[1],l.i⟩) (j:=0) (r:=r) (by show 0<1;omega)
              simpa using this
            rw[hlf,e1,e2]at hback
            have hrow:rowOf st1 (.box kb)=some [.sl true cs.length [cs]]:=by simp[rowOf,e4]
            have hgq:zAM [.sl true cs.length [cs]] [(0,0)]=some cs:=rfl
            have hRout:Ze w' (zK3 w Z1 Z' (ld.map YK.lent) ω2) (ownB (ld.map YK.lent) ω2 ω') [1,kb] [u] [.sl true out.length [out]]:=by
              rcases hmo with hz|hm
              · exact hu.conv _ (fun b hb=>⟨hz b hb,rfl⟩) fun b r hb=>⟨hgo b r hb,rfl⟩
              · exact(hu.mine_conv (Z':=fun _=>False) ⟨⟨rfl,⟨hm,trivial⟩⟩,trivial⟩).conv _ (fun b hb=>hb.elim) fun b r hb=>⟨hgo b r hb,rfl⟩
            simp only[hp,cond_true,List.append_nil]
            refine h2.modR hback hrow (Ji hgq hcl) ?_ ⟨[u],?_,fun t e=>by cases e⟩ inv3 hzk (fun r' hr'=>hro r' (by rw[e1];exact hr')) (fun h=>by cases h) ?_
            · intro cells hcells q' hq'
              cases hq'
              simp only[List.cons.injEq,CV.sl.injEq,true_and,and_true]at hcells
              rw[←hcells.2]
              exact hcl
            · rw[hcl]at hRout
              exact hRout
            · intro k0 hk0 b0 hb0
              cases hk0
              obtain⟨b1,f1,f2⟩:=h2.hs t _ (zw e3)
              have hv:a.eval (.tmp t)=.pointer (some ⟨b1,ZH [(0,0)]*cs.length+0,none⟩):=f2
              rw[hvl,hv]at hb1
              simp only[ZH,Nat.zero_mul,Nat.add_zero,Option.some.injEq,Value.pointer.injEq,Addr.mk.injEq,and_true]at hb1
              have hbb:b0=b1:=h2.inv.inj _ _ _ hb0 f1
              subst hbb
              subst hb1
              exact hgo b0 [0] hb2
          ·
            subst e3
            unfold zJH at hO
            rw[g3]at hO
            obtain⟨v0,hv0,hvR⟩:=hO
            rw[hvl]at hv0
            cases hv0
            obtain⟨c1,c2,c3,row,e,hrow,hgq,hqm,hle,hce⟩:=zGj h2 e1 e2
            have hlf:zOV l out=setAt l.o out:=by simp[zOV,hp]
            have hlent':l.lent=⟨l.r.path++qj l.q,l.o,l.n,[0,l.i],0⟩:=by simp[YK.lent,hp]
            rw[hlf]at hback
            obtain⟨us,hus,husl⟩:=h2.row hrow
            have hgo:∀b j r,j<l.n→ω' b=some ([0,l.i]++(0+j)::r)→ownB (ld.map YK.lent) ω2 ω' b=some ((l.r.path++qj l.q)++(l.o+j)::r):=by
              intro b j r hj hb
              simp only[ownB,hb,hld,Option.map_some,hlent']
              exact zLt (l:=⟨l.r.path++qj l.q,l.o,l.n,[0,l.i],0⟩) (j:=j) (r:=r) hj
            have hout2:zEa w' (zK3 w Z1 Z' (ld.map YK.lent) ω2) (ownB (ld.map YK.lent) ω2 ω') (l.r.path++qj l.q) l.o (a.eval (.tmp t)).cells.toList out:=by
              rcases hmo with hz|hm
              · exact(zEa.zero.2 hvR).conv (fun b hb=>⟨hz b hb,rfl⟩) fun b j r hj hb=>⟨hgo b j r (by omega) hb,rfl⟩
              · exact(zEa.zero.2 (hvR.mine_conv (Z':=fun _=>False) hm)).conv (fun b hb=>hb.elim) fun b j r hj hb=>⟨hgo b j r (by omega) hb,rfl⟩
            have hlo:l.o+out.length≤e.length:=by rw[hol'];exact hle
            have hnotin:∀r x,(∀j r',r=qj l.q++(l.o+j)::r'→¬j<l.n)→x=l.r.path++r→goP (ld.map YK.lent) x=none:=by
              intro r x hr hx
              have hin:inR (l.r.path++qj l.q) l.o l.n x=none:=qS fun j r' h hj=>by
                rw[hx,List.append_assoc]at h
                exact hr j r' (List.append_cancel_left h) hj
              simp only[goP,hld,Option.map_some,hlent',Option.bind_some,hin,Option.map_none]
              rw[hx]
              cases l.r<;>rfl
            simp only[hp,cond_false]
            suffices hbase:Rel cx st2' a w' (zK3 w Z1 Z' (ld.map YK.lent) ω2) (ownB (ld.map YK.lent) ω2 ω') by
              refine⟨hbase.inv,hbase.nt,hbase.df,hbase.pin,fun t' sv hm=>?_,hbase.hb⟩
              rcases List.mem_append.1 hm with hm|hm
              · exact hbase.hs t' sv hm
              · obtain⟨m1,q',m',o',k',ag',rfl,m2,m3⟩:=zGV hm
                obtain⟨n1,n2,n3⟩:=h2.hs t' _ m1
                refine⟨n1,n2,fun j u hu=>?_⟩
                have hcell:=n3 j u hu
                cases q' with
                |nil=>exact absurd rfl m2
                | cons y q' =>
                  obtain⟨b,cur,T',f1,f2,f3⟩:=hcell
                  have hg:=hkeep b _ f1 (hnotin (spine (y::q')) _ (fun j2 r2 h hj2=>by
                    have h1:=congrArg List.length h
                    have h2:=congrArg List.length (zGy (y::q') (by simp))
                    have h3:∀q:List (Nat×Nat),(qj q).length=2*q.length:=by
                      intro q
                      induction q with
                      |nil=>rfl
                      |cons z q ih=>obtain⟨z1,z2⟩:=z;simp only[qj,List.length_cons,ih];omega
                    simp only[List.length_append,List.length_cons,List.length_nil,h3]at h1 h2 m3
                    omega) rfl)
                  exact⟨b,cur,T',hg.1,hg.2.trans f2,f3⟩
            refine h2.modR hback hrow (Ji hgq (QT _ _ _)) ?_ ⟨us,?_,husl⟩ inv3 hzk hro (fun h=>by cases h) ?_
            · intro cells hcells q' hq'
              rw[hcells,hq']at hgq
              simp only[zAM,List.getElem?_cons_zero]at hgq
              exact Ji hgq (QT _ _ _)
            · refine zN7 (bad:=fun k=>l.o≤k∧k<l.o+l.n) hzk l.q _ _ _ e hus hgq (QT _ _ _) (fun us' hu' hq1 hq2=>?_) (fun b r hb hnb=>?_)
              · refine⟨by rw[QT];exact hu'.1,fun j c' u hcc hu=>?_⟩
                rw[setAt_getElem? _ _ _ hlo]at hcc
                split at hcc
                · rename_i hj
                  have hjn:j-l.o<(a.eval (.tmp t)).cells.size:=by
                    rw[←Array.length_toList,hout2.1];omega
                  have hcell:=(h2.hs t _ (zw e1)).2.2 (j-l.o) _ (Array.getElem?_eq_getElem hjn)
                  rw[show l.o+(j-l.o)=j by omega]at hcell
                  have hval:u=(a.eval (.tmp t)).cells[j-l.o]:=by
                    cases hq:l.q with
                    | nil =>
                      rw[hq]at hcell
                      have hus':=hq1 hq
                      subst hus'
                      cases hr:l.r with
                      | slot t0 =>
                        rw[hr]at hcell
                        simp only[CellIs]at hcell
                        have:=husl t0 hr
                        rw[this]at hu
                        rw[Array.getElem?_toList]at hu
                        rw[hu]at hcell
                        exact Option.some.inj hcell
                      |box k0=>rw[hr]at hcell;exact hcell.elim
                    | cons y q =>
                      obtain⟨b,cur,T',f1,f2,f3⟩:=hq2 (by rw[hq];simp)
                      have hem:e.length=m:=hqm.resolve_left (by rw[hq];simp)
                      rw[hq]at hcell
                      obtain⟨b',cur',T2,f1',f2',f3'⟩:=hcell
                      have hbb:b'=b:=h2.inv.inj _ _ _ f1' (by rw[f1,hq])
                      subst hbb
                      rw[f2]at f2'
                      cases f2'
                      have:=f3 j u hu
                      rw[hem,hq,f3']at this
                      exact(Option.some.inj this).symm
                  rw[hval]
                  have:=hout2.2 (j-l.o) c' _ hcc (by rw[Array.getElem?_toList];exact Array.getElem?_eq_getElem hjn)
                  rw[show l.o+(j-l.o)=j by omega]at this
                  exact this
                · rename_i hj
                  refine(hu'.2 j c' u hcc hu).conv _ hzk fun b r hb=>?_
                  refine hkeep b _ hb (hnotin (qj l.q++[j]++r) _ (fun j2 r2 h hj2=>?_) (by simp))
                  rw[List.append_assoc]at h
                  have:=List.append_cancel_left h
                  simp at this
                  omega
              · refine hkeep b _ hb (hnotin r _ (fun j r' h hj=>hnb ⟨l.o+j,r',h,by omega,by omega⟩) rfl)
            · intro k0 hk0 b0 hb0
              have:=hnotin [0] [1,k0,0] (fun j r' h hj=>by
                have hl:=congrArg List.length h
                cases hq:l.q with
                | nil =>
                  have hcell:=(h2.hs t _ (zw e1)).2.2
                  rw[hq,hk0]at hcell
                  have hsz:0<(a.tmps.getD t undef).cells.size:=by
                    rw[←Array.length_toList,c2.1,c3];omega
                  exact hcell 0 _ (Array.getElem?_eq_getElem hsz)
                |cons y q=>rw[hq]at hl;obtain⟨y1,y2⟩:=y;simp[qj]at hl) (by rw[hk0];rfl)
              exact(hkeep b0 _ hb0 this).1
      · cases hback
  obtain⟨ω4,h4⟩:=zMw hst2 hput hret3
  exact hn _ _ _ _ _ hK h4
theorem zSq{P:Program}{cx:Cx}{T:Nat→Option TI}{st st1 st2 st3:St}{o:Oper}{f:FuncId}{as:Array Operand}{ats:Array TypeId}{xs:List (Mode×TypeId×Operand)}{ows:List (Option (Bool×List CV))}
    {ps:List JX} {brs:List zn} {ld:Option YK} {rets:List Ret} {outs:List (Nat×List CV)}
    (ho:o.op=.call { callee:=.value (.func f),args:=as,argTypes:=ats }) (hxs:as.toList=xs.map fun x=>x.2.2) (hcons:zCQ T xs 0 st=some (ows,st1)) (hargs:zFU T st1 xs ows 0=some (ps,brs,ld))
    (hbr:∀l,ld=some l→l.r∉brs) (hL:zb P f ps rets outs) (hmine:brs=[]∨((∀r∈rets,r.mine)∧∀i out,(i,out)∈outs→z5 out)) (hback:zCP st1 ld outs=some st2) (hput:zFv st2 o.dst rets=some st3)
    {K:St→Prop} (hK:K st3):OpT P cx o st K:=by
  refine zPF (f:=f) (as:=as) (fun a w Z ω hR fn hfn hname hbody=>?_) hxs hcons hargs hbr hL hmine hback hput hK
  have hev:a.eval (.func f)=.func (.func f) #[] #[]:=rfl
  simp only[execOp,ho,resolve,hev,Sem.run_bind]
  have hname' : fn.name ≠ "runtime.NumGoroutine" := by simpa using hname
  have hbody':fn.body≠none:=by
    intro h0
    rw[h0]at hbody
    cases hbody
  simp[Deferred.ofValue,invoke,callFunc,hfn,hname',hbody']
end Go.TL
