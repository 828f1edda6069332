import Derived.Test.YticeglbllcelaaaGreatTlM
set_option linter.unusedVariables false
namespace Go.TL
inductive JX where
  |val (ag:Bool) (cs:List CV)
  |own (ag:Bool) (cs:List CV)
  |ptr (cs:List CV)
  |io (ag:Bool) (cs:List CV)
  |fad (cs:List CV)
inductive Ret where
  |val (ag:Bool) (cs:List CV)
  |ptr (cs:List CV)
def ArgRel(w:World)(Z:JI)(ω:Own)(i:Nat)(v:Value):JX→Prop
  |.val ag cs=>shp ag v∧zZ cs=true∧Ze w Z ω [0,i] v.cells.toList cs
  |.own ag cs|.io ag cs=>shp ag v∧Ze w Z ω [0,i] v.cells.toList cs
  |.ptr cs=>∃b,v=.pointer (some ⟨b,0,none⟩)∧ω b=some [1,i,0]∧∃u,Ze w Z ω [1,i] [u] [.sl true cs.length [cs]]
  |.fad cs=>∃A:Addr,A.spot=none∧v=.pointer (some A)∧Z A.block∧zZ cs=true∧∀(j:Nat) c,cs[j]? =some c→∃u,w.cell? ⟨A.block,A.off+j,none⟩=some u∧Qg w Z ω [] u c
def zGK(w:World)(Z:JI)(ω:Own)(v:Value):List Ret→Prop
  |[.val ag cs]=>shp ag v∧Ze w Z ω [2,0] v.cells.toList cs
  |[.ptr cs]=>∃b,v=.pointer (some ⟨b,0,none⟩)∧ω b=some [2,0,0]∧∃u,Ze w Z ω [2,0] [u] [.sl true cs.length [cs]]
  |rs=>∃us:Array Value,v=.tuple us∧us.size=rs.length∧∀(k:Nat) ag cs,rs[k]? =some (.val ag cs)→∃u,us[k]? =some u∧shp ag u∧Ze w Z ω [2,k] u.cells.toList cs
def zJH(w:World)(Z:JI)(ω:Own)(vals:Array Value)(args:List JX)(i:Nat)(out:List CV):Prop:=match args[i]? with
  |some (.ptr cs)=>(∃u,Ze w Z ω [1,i] [u] [.sl true out.length [out]])∧∃b,vals[i]? =some (.pointer (some ⟨b,0,none⟩))∧ω b=some [1,i,0]
  |some (.io ag cs)=>∃v,vals[i]? =some v∧Ze w Z ω [0,i] v.cells.toList out
  |_=>False
def FnOk (P : Program) (f : FuncId) : Prop := ∃ fn, P.funcs[f]? = some fn ∧ (fn.name == "runtime.NumGoroutine") = false ∧ fn.body.isNone = false
def zb(P:Program)(f:FuncId)(args:List JX)(rets:List Ret)(outs:List (Nat×List CV)):Prop:=
  FnOk P f∧∀(w:World) (Z:JI) (ω:Own) (vals:Array Value),Inv ⟨w,Z,ω,vals⟩ w Z ω→vals.size=args.length→(∀(i:Nat) arg,args[i]? =some arg→∃v,vals[i]? =some v∧ArgRel w Z ω i v arg)→
    Calls P f vals w fun e w'=>∃v Z' ω',e=.returned v∧Inv ⟨w,Z,ω,vals⟩ w' Z' ω'∧zGK w' Z' ω' v rets∧∀i out,(i,out)∈outs→zJH w' Z' ω' vals args i out
mutual
def CV.mine:CV→Prop
  |.lit _=>True
  |.sl own _ es=>own=true∧zDC es
  |.dead=>True
def zDC:List (List CV)→Prop
  |[]=>True
  |e::es=>z5 e∧zDC es
def z5:List CV→Prop
  |[]=>True
  |c::cs=>c.mine∧z5 cs
end
theorem zHX:∀ {cs:List CV},z5 cs→∀c∈cs,c.mine
  | c :: cs,h,x,hx => by
    simp only[z5]at h
    rcases List.mem_cons.1 hx with e|hx
    · subst e;exact h.1
    · exact zHX h.2 x hx
theorem zL9:∀ {es:List (List CV)},zDC es→∀e∈es,z5 e
  | e :: es,h,x,hx => by
    simp only[zDC]at h
    rcases List.mem_cons.1 hx with e1|hx
    · subst e1;exact h.1
    · exact zL9 h.2 x hx
theorem Qg.mine_conv{w:World}{Z Z':JI}{ω:Own}{p:Zu}{v:Value}{c:CV}(h:Qg w Z ω p v c):c.mine→Qg w Z' ω p v c:=by
  induction h with
  |lit p v h=>exact fun _=>.lit p v h
  |dead p v h=>exact fun _=>.dead p v h
  |nil p own sz=>exact fun _=>.nil p own sz
  |fro p a cap sz es us hs hZ hcap hm hsz hf hc hr ih=>intro hm;simp[CV.mine]at hm
  | own p b cap sz es us cur T hω hb hcap hm hcs hsz hc hr ih =>
    intro hmn
    simp only[CV.mine]at hmn
    refine .own p b cap sz es us cur T hω hb hcap hm hcs hsz hc fun i j c hij=>ih i j c hij ?_
    obtain⟨e,g1,g2⟩:=JZ hij
    exact zHX (zL9 hmn.2 e (List.mem_of_getElem? g1)) c (List.mem_of_getElem? g2)
theorem Ze.mine_conv{w:World}{Z Z':JI}{ω:Own}{p:Zu}{us:List Value}{cs:List CV}(h:Ze w Z ω p us cs)(hm:z5 cs):Ze w Z' ω p us cs:=
  ⟨h.1,fun j c u hc hu=>(h.2 j c u hc hu).mine_conv (zHX hm c (List.mem_of_getElem? hc))⟩
structure zLI where
  S:Zu
  o:Nat
  n:Nat
  D:Zu
  o2:Nat
def goP(g:Option zLI)(p:Zu):Option Zu:=
  match g.bind fun l=>(inR l.S l.o l.n p).map fun x=>l.D++(l.o2+x.1)::x.2 with
  |some q=>some q
  | none => match p with
    |2::r=>some (0::r)
    |_=>none
def zLs(g:Option zLI)(p:Zu):Option Zu:=
  match g.bind fun l=>(inR l.D l.o2 l.n p).map fun x=>l.S++(l.o+x.1)::x.2 with
  |some q=>some q
  | none => match p with
    |2::r=>some (2::r)
    |_=>none
def zEO(g:Option zLI)(ω:Own):Own:=fun b=>(ω b).bind (goP g)
def ownB(g:Option zLI)(ω ω':Own):Own:=fun b=>match ω' b with
  |some p=>zLs g p
  | none => match ω b with
    | some p => match goP g p with
      |some _=>none
      |none=>some p
    |none=>none
structure zLI.Ok (l:zLI) (ω:Own):Prop where
  s2:∀k r,l.S++k≠2::r
  d2:∀k r,l.D++k≠2::r
  free:∀b r j x,j<l.n→ω b=some (2::r)→0::r≠l.D++(l.o2+j)::x
theorem zRp{g:Option zLI}{ω:Own}(hg:∀l,g=some l→l.Ok ω)(hi:∀b b' p,ω b=some p→ω b'=some p→b=b'):∀b b' p,zEO g ω b=some p→zEO g ω b'=some p→b=b':=by
  have key:∀b p,zEO g ω b=some p→(∃l j r,g=some l∧ω b=some (l.S++(l.o+j)::r)∧j<l.n∧p=l.D++(l.o2+j)::r)∨∃r,ω b=some (2::r)∧p=0::r:=by
    intro b p h
    unfold zEO at h
    cases hb:ω b with
    |none=>rw[hb]at h;cases h
    | some q =>
      rw[hb]at h
      simp only[Option.bind_some,goP]at h
      split at h
      · rename_i q' hq
        cases h
        cases g with
        |none=>simp at hq
        | some l =>
          simp only[Option.bind_some,Option.map_eq_some_iff]at hq
          obtain⟨⟨j,r⟩,h1,h2⟩:=hq
          have:=zBZ.1 h1
          exact .inl ⟨l,j,r,rfl,by rw[this.1],this.2,h2.symm⟩
      · split at h
        · cases h;exact .inr ⟨_,rfl,rfl⟩
        · cases h
  intro b b' p h1 h2
  rcases key b p h1 with⟨l,j,r,e1,e2,e3,e4⟩|⟨r,e1,e2⟩<;>rcases key b' p h2 with⟨l',j',r',f1,f2,f3,f4⟩|⟨r',f1,f2⟩
  · rw[e1]at f1;cases f1
    rw[e4]at f4
    have:=List.append_cancel_left f4
    have h3:=(List.cons.inj this).1
    have h4:=(List.cons.inj this).2
    have:j=j':=by omega
    subst this;subst h4
    exact hi _ _ _ e2 f2
  · exact absurd (f2.symm.trans e4) ((hg l e1).free b' r' j r e3 f1)
  · exact absurd (e2.symm.trans f4) ((hg l' f1).free b r j' r' f3 e1)
  · rw[e2]at f2;cases f2
    exact hi _ _ _ e1 f1
theorem zJT{l:zLI}{j:Nat}{r:Zu}(hj:j<l.n):goP (some l) (l.S++(l.o+j)::r)=some (l.D++(l.o2+j)::r):=by
  simp only[goP,Option.bind_some,zBZ.2 ⟨rfl,hj⟩,Option.map_some]
theorem zOF{g:Option zLI}{ω:Own}(hg:∀l,g=some l→l.Ok ω){r:Zu} :goP g (2::r)=some (0::r):=by
  unfold goP
  cases g with
  |none=>rfl
  | some l =>
    have:inR l.S l.o l.n (2::r)=none:=qS fun j x h=>absurd h.symm ((hg l rfl).s2 _ _)
    simp[this]
theorem zLt{l:zLI}{j:Nat}{r:Zu}(hj:j<l.n):zLs (some l) (l.D++(l.o2+j)::r)=some (l.S++(l.o+j)::r):=by
  simp only[zLs,Option.bind_some,zBZ.2 ⟨rfl,hj⟩,Option.map_some]
theorem zQk{g:Option zLI}{ω:Own}(hg:∀l,g=some l→l.Ok ω){r:Zu} :zLs g (2::r)=some (2::r):=by
  unfold zLs
  cases g with
  |none=>rfl
  | some l =>
    have:inR l.D l.o2 l.n (2::r)=none:=qS fun j x h=>absurd h.symm ((hg l rfl).d2 _ _)
    simp[this]
theorem zGb{g:Option zLI}{p q:Zu}(h:zLs g p=some q):(∃l j r,g=some l∧p=l.D++(l.o2+j)::r∧j<l.n∧q=l.S++(l.o+j)::r)∨∃r,p=2::r∧q=2::r:=by
  unfold zLs at h
  split at h
  · rename_i q' hq
    cases h
    cases g with
    |none=>simp at hq
    | some l =>
      simp only[Option.bind_some,Option.map_eq_some_iff]at hq
      obtain⟨⟨j,r⟩,h1,h2⟩:=hq
      have:=zBZ.1 h1
      exact .inl ⟨l,j,r,rfl,this.1,this.2,h2.symm⟩
  · split at h
    · cases h;exact .inr ⟨_,rfl,rfl⟩
    · cases h
def zK3(w:World)(Z Z':JI)(g:Option zLI)(ω:Own):JI:=fun b=>Z b∨(Z' b∧(w.heap.size≤b∨zEO g ω b≠none))
theorem Inv.back{cx:Cx}{vals:Array Value}{w w':World}{Z Zc Z':JI}{ω ω':Own}{g:Option zLI}(h:Inv cx w Z ω)(hg:∀l,g=some l→l.Ok ω)(hc:Inv ⟨w,Zc,zEO g ω,vals⟩ w' Z' ω')(hZc:∀b,Z b→Zc b):
    Inv cx w' (zK3 w Z Z' g ω) (ownB g ω ω'):=by
  have hsrc:∀b p,ω' b=some p→w.heap.size≤b∨zEO g ω b≠none:=fun b p hb=>by
    by_cases hlt:b<w.heap.size
    · exact .inr (hc.wold b p hb hlt)
    · exact .inl (by omega)
  have hgo:∀b p,ω b=some p→goP g p=none→zEO g ω b=none:=fun b p hb hp=>by simp[zEO,hb,hp]
  have hcase:∀b p,ownB g ω ω' b=some p→(∃p',ω' b=some p'∧zLs g p'=some p)∨(ω' b=none∧ω b=some p∧goP g p=none):=by
    intro b p hb
    unfold ownB at hb
    split at hb
    · rename_i p' h1;exact .inl ⟨p',h1,hb⟩
    · rename_i h1
      split at hb
      · rename_i q h2
        split at hb
        · cases hb
        · rename_i h3;cases hb;exact .inr ⟨h1,h2,h3⟩
      · cases hb
  refine { os:=hc.os.trans h.os,tape:=hc.tape.trans h.tape,output:=hc.output.trans h.output,size:=Nat.le_trans h.size hc.size,keep:=fun b hb h0=>?_,zsub:=fun b hb=>.inl (h.zsub b hb),zold:=fun b hb hlt h0=>?_,
           wold:=fun b p hb hlt=>?_,disj:=fun b p hz hb=>?_,inj:=fun b b' p h1 h2=>?_,lt:=fun b p hb=>?_,zlt:=fun b hb=>?_ }
  · have hlt:b<w.heap.size:=Nat.lt_of_lt_of_le hb h.size
    have hnone:zEO g ω b=none:=by
      cases hω:ω b with
      |none=>simp[zEO,hω]
      |some p=>exact absurd h0 (h.wold b p hω hb)
    exact(hc.keep b hlt hnone).trans (h.keep b hb h0)
  · rcases hb with hb|⟨_,hb⟩
    · exact h.zold b hb hlt h0
    · rcases hb with hb|hb
      · have:=h.size;omega
      · exfalso
        cases hω:ω b with
        |none=>simp[zEO,hω]at hb
        |some p=>exact h.wold b p hω hlt h0
  · rcases hcase b p hb with⟨p',h1,_⟩|⟨_,h2,_⟩
    · rcases hsrc b p' h1 with h3|h3
      · have:=h.size;omega
      · cases hω:ω b with
        |none=>simp[zEO,hω]at h3
        |some q=>exact h.wold b q hω hlt
    · exact h.wold b p h2 hlt
  · rcases hcase b p hb with⟨p',h1,_⟩|⟨h1,h2,h3⟩
    · rcases hz with hz|⟨hz,_⟩
      · exact hc.disj b p' (hc.zsub b (hZc b hz)) h1
      · exact hc.disj b p' hz h1
    · rcases hz with hz|⟨_,hz⟩
      · exact h.disj b p hz h2
      · rcases hz with hz|hz
        · have:=h.lt b p h2;omega
        · exact hz (hgo b p h2 h3)
  · rcases hcase b p h1 with⟨p1,e1,e2⟩|⟨e1,e2,e3⟩<;>rcases hcase b' p h2 with⟨p2,f1,f2⟩|⟨f1,f2,f3⟩
    · have:p1=p2:=by
        rcases zGb e2 with⟨l,j,r,k1,k2,k3,k4⟩|⟨r,k1,k2⟩<;>rcases zGb f2 with⟨l',j',r',m1,m2,m3,m4⟩|⟨r',m1,m2⟩
        · rw[k1]at m1;cases m1
          rw[k4]at m4
          have:=List.append_cancel_left m4
          have h3:=(List.cons.inj this).1
          have h4:=(List.cons.inj this).2
          have:j=j':=by omega
          subst this;subst h4
          rw[k2,m2]
        · rw[m2]at k4;exact absurd k4.symm ((hg l k1).s2 _ _)
        · rw[k2]at m4;exact absurd m4.symm ((hg l' m1).s2 _ _)
        · rw[k2]at m2;cases m2;rw[k1,m1]
      subst this
      exact hc.inj _ _ _ e1 f1
    · exfalso
      rcases zGb e2 with⟨l,j,r,k1,k2,k3,k4⟩|⟨r,k1,k2⟩
      · subst k1;rw[k4,zJT k3]at f3;cases f3
      · rw[k2,zOF hg]at f3;cases f3
    · exfalso
      rcases zGb f2 with⟨l,j,r,k1,k2,k3,k4⟩|⟨r,k1,k2⟩
      · subst k1;rw[k4,zJT k3]at e3;cases e3
      · rw[k2,zOF hg]at e3;cases e3
    · exact h.inj _ _ _ e2 f2
  · rcases hcase b p hb with⟨p',h1,_⟩|⟨_,h2,_⟩
    · exact hc.lt b p' h1
    · exact Nat.lt_of_lt_of_le (h.lt b p h2) hc.size
  · rcases hb with hb|⟨hb,_⟩
    · exact Nat.lt_of_lt_of_le (h.zlt b hb) hc.size
    · exact hc.zlt b hb
end Go.TL
