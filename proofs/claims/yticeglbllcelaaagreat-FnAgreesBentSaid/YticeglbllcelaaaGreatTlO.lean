import Derived.Test.YticeglbllcelaaaGreatTlN
set_option linter.unusedVariables false
namespace Go.TL
def zL4(K:Nat→Bool)(ω:Own):Own:=fun b=>match ω b with
 |some p=>match p with
  |2::k::r=>bif K k then some (2::k::r)else none
  |2::[]=>none
  |p=>some p
 |none=>none
theorem zGh{K:Nat→Bool}{ω:Own}{b:Nat}{p:Zu}(h:zL4 K ω b=some p):ω b=some p∧∀r,p=2::r→∃k r',r=k::r'∧K k=true:=by
 unfold zL4 at h
 split at h
 ·rename_i q hq
  split at h
  ·rename_i k r
   cases hk:K k with
   |true=>
    simp only[hk,cond_true,Option.some.injEq]at h
    subst h
    exact⟨hq,fun r' e=>by cases e;exact⟨k,r,rfl,hk⟩⟩
   |false=>simp[hk]at h
  ·cases h
  ·rename_i h1 h2
   cases h
   refine⟨hq,fun r e=>?_⟩
   subst e
   cases r with
   |nil=>exact absurd rfl h2
   |cons k r=>exact absurd rfl (h1 k r)
 ·cases h
theorem zPf{K:Nat→Bool}{ω:Own}{b:Nat}{r:zn}{x:Zu}(h:ω b=some (r.path++x)):zL4 K ω b=some (r.path++x):=by
 unfold zL4
 rw[h]
 cases r<;>rfl
theorem zQv{K:Nat→Bool}{ω:Own}{b k:Nat}{x:Zu}(h:ω b=some (2::k::x))(hk:K k=true):zL4 K ω b=some (2::k::x):=by
 unfold zL4
 simp[h,hk]
theorem Rel.keep2{cx st a w Z ω}(h:Rel cx st a w Z ω)(K:Nat→Bool):Rel cx st a w Z (TL.zL4 K ω):=
 h.step (fun _=>False) ⟨fun b hb=>⟨hb,rfl⟩,fun r _ b x hb=>⟨zPf hb,rfl⟩,fun _ _=>rfl⟩ (h.inv.own (fun b p hb=>⟨p,(zGh hb).1⟩) (fun b b' p h1 h2=>h.inv.inj _ _ _ (zGh h1).1 (zGh h2).1)) h.nt h.df h.pin
  (fun t sv hm=>.inl ⟨hm,by cases sv<;>simp[SV.apart]⟩) (fun k cs hm=>.inl ⟨hm,fun h=>h⟩)
theorem Rel.freezeSlot{cx st a w Z ω}(h:Rel cx st a w Z ω){t:Nat}{ag:Bool}{cs:List CV}(hl:lk st.s t=some (.val ag cs)):
  ∃Z' ω',Rel cx { st with s:=(t,.val ag (qh cs))::zEQ (.slot t) st.s } a w Z' ω'∧(∀b,Z b→Z' b)∧∀k b x,ω b=some (2::k::x)→ω' b=some (2::k::x):=by
 have hs:=h.hs t _ (zw hl)
 refine⟨fun b=>Z b∨∃r,ω b=some ([0,t]++r),fun b=>match ω b with|some p=>(match strip [0,t] p with|some _=>none|none=>some p)|none=>none,?_,fun b hb=>.inl hb,fun k b x hb=>by simp[hb,strip]⟩
 have hsub:∀b p,(match ω b with|some p=>(match strip [0,t] p with|some _=>none|none=>some p)|none=>none)=some p→ω b=some p∧∀r,p≠ [0,t]++r:=by
  intro b p hb
  split at hb
  ·rename_i q hq
   split at hb
   ·cases hb
   ·rename_i hn
    cases hb
    exact⟨hq,fun r e=>by rw[zBr.2 e]at hn;cases hn⟩
  ·cases hb
 have inv':Inv cx w (fun b=>Z b∨∃r,ω b=some ([0,t]++r)) (fun b=>match ω b with|some p=>(match strip [0,t] p with|some _=>none|none=>some p)|none=>none):=
  { h.inv with
   zsub:=fun b hb=>.inl (h.inv.zsub b hb)
   zold:=fun b hb hlt h0=>by
    rcases hb with hb|⟨r,hb⟩
    ·exact h.inv.zold b hb hlt h0
    ·exact absurd h0 (h.inv.wold b _ hb hlt)
   wold:=fun b p hb hlt=>h.inv.wold b p (hsub b p hb).1 hlt
   disj:=fun b p hz hb=>by
    obtain⟨k1,k2⟩:=hsub b p hb
    rcases hz with hz|⟨r,hz⟩
    ·exact h.inv.disj b p hz k1
    ·rw[k1]at hz;exact k2 r (Option.some.inj hz)
   inj:=fun b b' p h1 h2=>h.inv.inj _ _ _ (hsub b p h1).1 (hsub b' p h2).1
   lt:=fun b p hb=>h.inv.lt b p (hsub b p hb).1
   zlt:=fun b hb=>by
    rcases hb with hb|⟨r,hb⟩
    ·exact h.inv.zlt b hb
    ·exact h.inv.lt b _ hb }
 refine h.step (· =.slot t) ⟨fun b hb=>⟨.inl hb,rfl⟩,fun r hr b x hb=>⟨?_,rfl⟩,fun _ _=>rfl⟩ inv' h.nt h.df h.pin (fun t' sv hm=>?_) (fun k cs hm=>.inl ⟨hm,fun e=>by cases e⟩)
 ·have:strip [0,t] (r.path++x)=none:=by
   cases hst:strip [0,t] (r.path++x)with
   |none=>rfl
   |some y=>
    have:=zBr.1 hst
    exact absurd (Zw (r:=r) (s:=.slot t) (x:=x) (y:=y) this).1 hr
  simp[hb,this]
 ·rcases List.mem_cons.1 hm with e|hm
  ·cases e
   right
   exact⟨hs.1,hs.2.freeze _ (fun b hb=>⟨.inl hb,rfl⟩) fun b r hb=>⟨.inr ⟨r,hb⟩,rfl⟩⟩
  ·have:=QS hm
   exact .inl ⟨this.1,QQ this.2⟩
inductive Mode where
 |rd
 |own
 |lend
def zCQ(T:Nat→Option TI):List (Mode×TypeId×Operand)→Nat→St→Option (List (Option (Bool×List CV))×St)
 |[],_,st=>some ([],st)
 | (m,ty,x) :: r,i,st => match m with
  | .own => match Yp T st ty x with
   |some tk=>match zCQ T r (i+1) tk.st with
    |some (l,st')=>some (some (tk.ag,tk.cs)::l,st')
    |none=>none
   |none=>none
  | .rd => match x with
   | .tmp t => match lk st.s t with
    | some (.val ag cs) => bif zZ cs then (match zCQ T r (i + 1) st with
      |some (l,st')=>some (none::l,st')
      |none=>none)else(match zCQ T r (i+1) { st with s:=(t,.val ag (qh cs))::zEQ (.slot t) st.s } with
      |some (l,st')=>some (none::l,st')
      |none=>none)
    |_=>match zCQ T r (i+1) st with
     |some (l,st')=>some (none::l,st')
     |none=>none
   |_=>match zCQ T r (i+1) st with
    |some (l,st')=>some (none::l,st')
    |none=>none
  |.lend=>match zCQ T r (i+1) st with
   |some (l,st')=>some (none::l,st')
   |none=>none
theorem zDu{T:Nat→Option TI}{cx a w} :∀(xs:List (Mode×TypeId×Operand)) (i:Nat) (st:St) (Z:JI) (ω:Own) (l:List (Option (Bool×List CV))) (st':St),Rel cx st a w Z ω→zCQ T xs i st=some (l,st')→
  ∃Z' ω',Rel cx st' a w Z' ω'∧st'.n=st.n∧l.length=xs.length∧(∀b,Z b→Z' b)∧(∀(k:Nat) m ty x ag cs,xs[k]? =some (m,ty,x)→l[k]? =some (some (ag,cs))→shp ag (a.eval x)∧Ze w Z' ω' [2,i+k] (a.eval x).cells.toList cs)∧
   (∀k,k<i→∀b y,ω b=some (2::k::y)→ω' b=some (2::k::y))
 |[],i,st,Z,ω,l,st',h,hs=>by
  simp only[zCQ,Option.some.injEq,Prod.mk.injEq]at hs
  obtain⟨rfl,rfl⟩:=hs
  exact⟨Z,ω,h,rfl,rfl,fun _ h=>h,fun k m ty x ag cs h=>by simp at h,fun _ _ _ _ h=>h⟩
 | (m,ty,x) :: r,i,st,Z,ω,l,st',h,hs => by
  have skip:∀l',zCQ T r (i+1) st=some (l',st')→l=none::l'→∃Z' ω',Rel cx st' a w Z' ω'∧st'.n=st.n∧l.length=((m,ty,x)::r).length∧(∀b,Z b→Z' b)∧(∀(k:Nat) m' ty' x' ag cs,((m,ty,x)::r)[k]? =some (m',ty',x')→l[k]? =some (some (ag,cs))→shp ag (a.eval x')∧Ze w Z' ω' [2,i+k] (a.eval x').cells.toList cs)∧
    (∀k,k<i→∀b y,ω b=some (2::k::y)→ω' b=some (2::k::y)):=by
   intro l' h1 h2
   obtain⟨Z',ω',k1,k2,k3,k4,k5,k6⟩:=zDu (a:=a) (w:=w) r (i+1) st Z ω l' st' h h1
   refine⟨Z',ω',k1,k2,by rw[h2];simp[k3],k4,fun k m' ty' x' ag cs e1 e2=>?_,fun k hk b y hb=>k6 k (by omega) b y hb⟩
   subst h2
   cases k with
   |zero=>simp at e2
   |succ k=>
    simp only[List.getElem?_cons_succ]at e1 e2
    have:=k5 k m' ty' x' ag cs e1 e2
    rw[show i+(k+1)=i+1+k by omega]
    exact this
  simp only[zCQ]at hs
  split at hs
  ·
   split at hs
   ·rename_i tk htk
    split at hs
    ·rename_i l' st1 h1
     cases hs
     obtain⟨ω1,g1,g2,g3,g4,g5⟩:=Jv h htk i
     obtain⟨Z',ω',k1,k2,k3,k4,k5,k6⟩:=zDu (a:=a) (w:=w) r (i+1) tk.st Z ω1 l' st' g1 h1
     refine⟨Z',ω',k1,by rw[k2,g4],by simp[k3],k4,fun k m' ty' x' ag cs e1 e2=>?_,fun k hk b y hb=>k6 k (by omega) b y (g5 k (by omega) b y hb)⟩
     cases k with
     |zero=>
      simp only[List.getElem?_cons_zero,Option.some.injEq,Prod.mk.injEq]at e1 e2
      obtain⟨rfl,rfl,rfl⟩:=e1
      obtain⟨rfl,rfl⟩:=e2
      exact⟨g2,g3.conv _ (fun b hb=>⟨k4 b hb,rfl⟩) fun b y hb=>⟨k6 i (by omega) b y hb,rfl⟩⟩
     |succ k=>
      simp only[List.getElem?_cons_succ]at e1 e2
      have:=k5 k m' ty' x' ag cs e1 e2
      rw[show i+(k+1)=i+1+k by omega]
      exact this
    ·cases hs
   ·cases hs
  ·split at hs
   ·rename_i t
    split at hs
    ·rename_i ag cs hl
     cases hf:zZ cs with
     |true=>
      simp only[hf,cond_true]at hs
      split at hs
      ·rename_i l' st1 h1;cases hs;exact skip l' h1 rfl
      ·cases hs
     | false =>
      simp only[hf,cond_false]at hs
      split at hs
      ·rename_i l' st1 h1
       cases hs
       obtain⟨Z1,ω1,g1,g2,g3⟩:=h.freezeSlot hl
       obtain⟨Z',ω',k1,k2,k3,k4,k5,k6⟩:=zDu (a:=a) (w:=w) r (i+1) _ Z1 ω1 l' st' g1 h1
       refine⟨Z',ω',k1,k2,by simp[k3],fun b hb=>k4 b (g2 b hb),fun k m' ty' x' ag' cs' e1 e2=>?_,fun k hk b y hb=>k6 k (by omega) b y (g3 k b y hb)⟩
       cases k with
       |zero=>simp at e2
       |succ k=>
        simp only[List.getElem?_cons_succ]at e1 e2
        have:=k5 k m' ty' x' ag' cs' e1 e2
        rw[show i+(k+1)=i+1+k by omega]
        exact this
      ·cases hs
    ·split at hs
     ·rename_i l' st1 h1;cases hs;exact skip l' h1 rfl
     ·cases hs
   ·split at hs
    ·rename_i l' st1 h1;cases hs;exact skip l' h1 rfl
    ·cases hs
  ·split at hs
   ·rename_i l' st1 h1;cases hs;exact skip l' h1 rfl
   ·cases hs
end Go.TL
