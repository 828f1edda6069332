import Derived.Test.YticeglbllcelaaaGreatTlY
import Derived.Below
import Derived.ChangeSame
import Derived.ChangeArms
import Derived.WideShapes
import Derived.DataReads
set_option linter.unusedVariables false
namespace Go.TL
inductive Lf where
 |int (k:IntKind)
 |bool
 |str
 |sl (sz:Nat) (e:List Lf)
mutual
def zG1:Lf→CV→Prop
 |.int k,c=>∃n,c=.lit (.int k n)∧(Lit.int k n).wf=true
 |.bool,c=>∃b,c=.lit (.bool b)
 |.str,c=>∃s:ByteArray,c=.lit (.string s)∧s.size≤maxLen
 |.sl sz e,c=>∃es,c=.sl false sz es∧es.length≤maxLen∧∀row∈es,zDt e row
def zDt:List Lf→List CV→Prop
 |[],[]=>True
 |l::ls,c::cs=>zG1 l c∧zDt ls cs
 |_,_=>False
end
theorem zAl{l:Lf}{ls:List Lf}{c:CV}{cs:List CV} :zDt (l::ls) (c::cs)=(zG1 l c∧zDt ls cs):=by simp only[zDt]
theorem zH6:zDt [] []:=by simp only[zDt]
theorem zDT{c:CV}{cs:List CV}(h:zDt [] (c::cs)):False:=by simp only[zDt]at h
theorem zDS{l:Lf}{ls:List Lf}(h:zDt (l::ls) []):False:=by simp only[zDt]at h
theorem zDt.length:∀ {ls:List Lf} {cs:List CV},zDt ls cs→cs.length=ls.length
 |[],[],_=>rfl
 |_::ls,_::cs,h=>by rw[zAl]at h;simp only[List.length_cons,zDt.length h.2]
 |[],_::_,h=>(zDT h).elim
 |_::_,[],h=>(zDS h).elim
theorem zDt.append:∀ {ls ls':List Lf} {cs cs':List CV},zDt ls cs→zDt ls' cs'→zDt (ls++ls') (cs++cs')
 |[],_,[],_,_,h'=>h'
 |_::ls,_,_::cs,_,h,h'=>by
  rw[zAl]at h
  rw[List.cons_append,List.cons_append,zAl]
  exact⟨h.1,zDt.append h.2 h'⟩
 |[],_,_::_,_,h,_=>(zDT h).elim
 |_::_,_,[],_,h,_=>(zDS h).elim
def shF(P:Program)(g:TypeId→Option (List Lf)):Nat→List Field→Option (List Lf)
 |_,[]=>some []
 | o,f :: fs => match g f.type with
  |some l=>bif f.offset==o&&l.length==P.cellsOf f.type then(match shF P g (o+l.length) fs with
   |some r=>some (l++r)
   |none=>none)else none
  |none=>none
def shR(P:Program):Nat→TypeId→Option (List Lf)
 |0,_=>none
 | n + 1,t => match P.underlying t with
  |some (.int k)=>some [.int k]
  |some .bool=>some [.bool]
  |some .string=>some [.str]
  |some (.slice e)=>match shR P n e with
   |some l=>bif l.length==P.cellsOf e&&Nat.ble 1 l.length then some [.sl (P.cellsOf e) l]else none
   |none=>none
  |some (.struct fs)=>match shF P (shR P n) 0 fs.toList with
   |some l=>bif l.length==P.cellsOf t then some l else none
   |none=>none
  |_=>none
theorem zMb{w Z ω p v}(h:v.oneCell'=true):Ze w Z ω p [v] [.lit v]:=by
 refine⟨rfl,fun j c u hc hu=>?_⟩
 cases j with
 |zero=>
  simp only[List.getElem?_cons_zero,Option.some.injEq]at hc hu
  subst hc;subst hu
  exact .lit _ _ h
 |succ j=>simp at hc
def zOB(w:World)(Z:JI)(us:List Value)(cs:List CV):Prop:=∀ω p,Ze w Z ω p us cs
theorem zOB.append{w Z us us' cs cs'}(h:zOB w Z us cs)(h':zOB w Z us' cs')(hf:zZ cs'=true):zOB w Z (us++us') (cs++cs'):=by
 intro ω p
 have h1:=h ω p
 have h2:=h' ω p
 refine⟨by simp[h1.1,h2.1],fun j c u hc hu=>?_⟩
 by_cases hj:j<cs.length
 ·rw[List.getElem?_append_left hj]at hc
  rw[List.getElem?_append_left (by rw[h1.1];exact hj)]at hu
  exact h1.2 j c u hc hu
 ·rw[List.getElem?_append_right (by omega)]at hc
  rw[List.getElem?_append_right (by rw[h1.1];omega),h1.1]at hu
  have:=h2.2 _ c u hc hu
  rw[qp,List.all_eq_true]at hf
  exact this.flat_conv (hf c (List.mem_of_getElem? hc)) _ fun b hb=>⟨hb,rfl⟩
theorem zG1.flat{l:Lf}{c:CV}(h:zG1 l c):c.flat=true:=by
 cases l with
 |int k=>simp only[zG1]at h;obtain⟨n,rfl,_⟩:=h;rfl
 |bool=>simp only[zG1]at h;obtain⟨b,rfl⟩:=h;rfl
 |str=>simp only[zG1]at h;obtain⟨s,rfl,_⟩:=h;rfl
 |sl sz e=>simp only[zG1]at h;obtain⟨es,rfl,_⟩:=h;rfl
theorem zDt.flat:∀ {ls:List Lf} {cs:List CV},zDt ls cs→zZ cs=true
 |[],[],_=>rfl
 |_::ls,_::cs,h=>by rw[zAl]at h;simp only[zZ,h.1.flat,zDt.flat h.2,Bool.and_self]
 |[],_::_,h=>(zDT h).elim
 |_::_,[],h=>(zDS h).elim
theorem zSk{l:Lf}{c:CV}(h:zG1 l c):zDt [l] [c]:=by rw[zAl];exact⟨h,zH6⟩
theorem cell_spot{w:World}{a:Addr}{v:Value}(h:w.cell? a=some v):a.spot=none∧a.block<w.heap.size:=by
 unfold World.cell? at h
 split at h
 ·rename_i c _ _ hb
  split at h
  ·cases h
  ·rename_i hs
   refine⟨by simpa using hs,(Array.getElem?_eq_some_iff.1 hb).1⟩
 ·cases h
section
variable {H : Type} {enc : TypeId × Value → H} {P : Program} {w : World} {base : Nat} {sp : Nat → Bool} {held : Bool}
theorem zKR{Z:JI}{g:TypeId→Option (List Lf)}{cs:List Value}(hg:∀t l,g t=some l→∀fuel us x,DataW.trod enc P w base sp held fuel t us=some x→us.length=l.length∧∃tree,zDt l tree∧zOB w Z us tree):
  ∀(fs:List Field) (o:Nat) (l:List Lf),shF P g o fs=some l→o+l.length≤cs.length→(∀(i:Nat) f,fs[i]? =some f→∃n x,DataW.trod enc P w base sp held n f.type ((cs.drop f.offset).take (P.cellsOf f.type))=some x)→
   ∃tree,zDt l tree∧zOB w Z ((cs.drop o).take l.length) tree
 |[],o,l,h,hl,hf=>by
  simp only[shF,Option.some.injEq]at h
  subst h
  refine⟨[],zH6,fun ω p=>⟨by simp,fun j c u hc=>by simp at hc⟩⟩
 | f :: fs,o,l,h,hl,hf => by
  simp only[shF]at h
  split at h
  ·rename_i l1 hl1
   cases hc:(f.offset==o&&l1.length==P.cellsOf f.type)with
   |false=>simp[hc]at h
   | true =>
    simp only[hc,cond_true]at h
    rw[Bool.and_eq_true]at hc
    have ho:=eq_of_beq hc.1
    have hn:=eq_of_beq hc.2
    split at h
    ·rename_i r hr
     cases h
     obtain⟨n,x,hx⟩:=hf 0 f rfl
     obtain⟨g1,t1,g2,g3⟩:=hg _ _ hl1 _ _ _ hx
     rw[List.length_append]at hl
     obtain⟨t2,k1,k2⟩:=zKR hg fs (o+l1.length) r hr (by omega) (fun i f' hi=>hf (i+1) f' (by simpa using hi))
     refine⟨t1++t2,g2.append k1,?_⟩
     have he:(cs.drop o).take (l1++r).length=(cs.drop o).take l1.length++(cs.drop (o+l1.length)).take r.length:=by
      rw[List.length_append,List.take_add,List.drop_drop]
     rw[he]
     refine zOB.append ?_ k2 k1.flat
     rw[ho,←hn]at g3
     exact g3
    ·cases h
  ·cases h
theorem zRt{Z:JI}(hZ:∀b,b<w.heap.size→Z b):∀(n:Nat) (t:TypeId) (l:List Lf),shR P n t=some l→∀fuel us x,DataW.trod enc P w base sp held fuel t us=some x→us.length=l.length∧∃tree,zDt l tree∧zOB w Z us tree:=by
 intro n
 induction n with
 |zero=>intro t l h;cases h
 | succ n ih =>
  intro t l h fuel us x hx
  simp only[shR]at h
  split at h
  ·rename_i k hu
   cases h
   obtain⟨m,rfl,_,hw⟩:=DataW.trod_int hu hx
   exact⟨rfl,[.lit (.int k m)],zSk (by simp only[zG1];exact⟨m,rfl,hw⟩),fun ω p=>zMb rfl⟩
  ·rename_i hu
   cases h
   obtain⟨b,rfl,_⟩:=DataW.trod_bool hu hx
   exact⟨rfl,[.lit (.bool b)],zSk (by simp only[zG1];exact⟨b,rfl⟩),fun ω p=>zMb rfl⟩
  ·rename_i hu
   cases h
   obtain⟨s,rfl,_,hs⟩:=DataW.trod_string hu hx
   exact⟨rfl,[.lit (.string s)],zSk (by simp only[zG1];exact⟨s,rfl,hs⟩),fun ω p=>zMb rfl⟩
  ·rename_i e hu
   split at h
   ·rename_i l' hl'
    cases hc:(l'.length==P.cellsOf e&&Nat.ble 1 l'.length)with
    |false=>simp only[hc,cond_false]at h;cases h
    | true =>
     simp only[hc,cond_true,Option.some.injEq]at h
     subst h
     rw[Bool.and_eq_true]at hc
     have hlen:=eq_of_beq hc.1
     have hpos:=Nat.le_of_ble_eq_true hc.2
     cases fuel with
     |zero=>simp[DataW.trod]at hx
     | succ fuel =>
      unfold DataW.trod at hx
      rw[hu]at hx
      split at hx
      any_goals (first|contradiction|(exfalso;simp_all;done))
      ·exact⟨rfl,[.sl false (P.cellsOf e) []],zSk (by simp only[zG1];exact⟨[],rfl,Nat.zero_le _,fun r hr=>by cases hr⟩),fun ω p=>by
        refine⟨rfl,fun j c u hc hu=>?_⟩
        cases j with
        |succ j=>simp at hc
        |zero=>simp at hc hu;subst hc;subst hu;exact .nil _ _ _⟩
      ·rename_i e' a len cap e1
       cases e1
       split at hx
       ·rename_i hcc
        obtain⟨_,hc1,hc2⟩:=hcc
        simp only[Option.bind_eq_some_iff]at hx
        obtain⟨elems,hel,_⟩:=hx
        have hall:∀i,i<len→∃us,w.cells? base (a.add (i*P.cellsOf e)) (P.cellsOf e)=some us∧us.length=l'.length∧∃tree,zDt l' tree∧zOB w Z us tree:=by
         intro i hi
         have h1:=Go.mapM_some_get hel i i (by rw[List.getElem?_range hi])
         have hle:=Go.mapM_some_length hel
         rw[List.length_range]at hle
         have h2:elems[i]? =some elems[i]:=List.getElem?_eq_getElem (by omega)
         rw[h2]at h1
         simp only[Option.bind_eq_some_iff]at h1
         obtain⟨us,k1,k2⟩:=h1
         obtain⟨k3,tree,k4,k5⟩:=ih e l' hl' _ _ _ k2
         exact⟨us,k1,k3,tree,k4,k5⟩
        have hU:∃U:Nat→List Value,∃Tr:Nat→List CV,∀i,i<len→w.cells? base (a.add (i*P.cellsOf e)) (P.cellsOf e)=some (U i)∧(U i).length=l'.length∧zDt l' (Tr i)∧zOB w Z (U i) (Tr i):=by
         classical
         refine⟨fun i=>if hi:i<len then(hall i hi).choose else [],fun i=>if hi:i<len then(hall i hi).choose_spec.2.2.choose else [],fun i hi=>?_⟩
         simp only[dif_pos hi]
         exact⟨(hall i hi).choose_spec.1,(hall i hi).choose_spec.2.1,(hall i hi).choose_spec.2.2.choose_spec⟩
        obtain⟨U,Tr,hUT⟩:=hU
        have hes:((List.range len).map Tr).length=len:=by simp
        have hcell:∀i j,i<len→j<l'.length→∃u,(U i)[j]? =some u∧w.cell? ((a.add (i*P.cellsOf e)).add j)=some u:=by
         intro i j hi hj
         obtain⟨k1,k2,_⟩:=hUT i hi
         unfold World.cells? at k1
         split at k1
         ·have:=Go.mapM_some_get k1 j j (by rw[List.getElem?_range (by omega)])
          have h2:(U i)[j]? =some (U i)[j]:=List.getElem?_eq_getElem (by omega)
          exact⟨_,h2,by rw[this,h2]⟩
         ·cases k1
        have hsp:len≠0→a.spot=none∧a.block<w.heap.size:=by
         intro h0
         obtain⟨u,_,hu⟩:=hcell 0 0 (by omega) (by omega)
         have:(a.add (0*P.cellsOf e)).add 0=a:=by simp[Addr.add]
         rw[this]at hu
         exact cell_spot hu
        have hel2:∀i j c,elC ((List.range len).map Tr) i j=some c→i<len∧(Tr i)[j]? =some c:=by
         intro i j c hij
         obtain⟨row,g1,g2⟩:=JZ hij
         rw[List.getElem?_map]at g1
         by_cases hi:i<len
         ·rw[List.getElem?_range hi]at g1
          cases g1
          exact⟨hi,g2⟩
         ·rw[List.getElem?_eq_none (by simp;omega)]at g1
          cases g1
        refine⟨rfl,[.sl false (P.cellsOf e) ((List.range len).map Tr)],zSk (by
         simp only[zG1]
         refine⟨_,rfl,by rw[hes];omega,fun r hr=>?_⟩
         obtain⟨i,hi,rfl⟩:=List.mem_map.1 hr
         exact(hUT i (by simpa using hi)).2.2.1),fun ω p=>?_⟩
        refine⟨rfl,fun j c u hc hu=>?_⟩
        cases j with
        |succ j=>simp at hc
        | zero =>
         simp only[List.getElem?_cons_zero,Option.some.injEq]at hc hu
         subst hc;subst hu
         have hq:Qg w Z ω (p++[0]) (.slice (some a) ((List.range len).map Tr).length cap) (.sl false (P.cellsOf e) ((List.range len).map Tr)):=by
          refine .fro _ a cap _ _ (fun i j=>(U i).getD j undef) ?_ ?_ (by rw[hes];exact hc1) hc2 ?_ ?_ ?_ ?_
          ·intro hne;exact(hsp (fun e=>by subst e;exact hne rfl)).1
          ·intro hne;exact hZ _ (hsp (fun e=>by subst e;exact hne rfl)).2
          ·intro r hr
           obtain⟨i,hi,rfl⟩:=List.mem_map.1 hr
           rw[(hUT i (by simpa using hi)).2.2.1.length];exact hlen
          ·intro i j c hij
           obtain⟨hi,hj⟩:=hel2 i j c hij
           have:=(hUT i hi).2.2.1.flat
           rw[qp,List.all_eq_true]at this
           exact this c (List.mem_of_getElem? hj)
          ·intro i j c hij
           obtain⟨hi,hj⟩:=hel2 i j c hij
           have hjl:=(List.getElem?_eq_some_iff.1 hj).1
           rw[(hUT i hi).2.2.1.length]at hjl
           obtain⟨u,g1,g2⟩:=hcell i j hi hjl
           have hs0:=(hsp (by omega)).1
           have hadd:(a.add (i*P.cellsOf e)).add j=⟨a.block,a.off+(i*P.cellsOf e+j),none⟩:=by
            obtain⟨b,o,sp⟩:=a
            simp only at hs0
            subst hs0
            rw[add_lit,add_lit,Nat.add_assoc]
           rw[hadd]at g2
           rw[g2,List.getD_eq_getElem?_getD,g1];rfl
          ·intro i j c hij
           obtain⟨hi,hj⟩:=hel2 i j c hij
           have hr:=(hUT i hi).2.2.2 ω (p++[0]++[i])
           have hjl:=(List.getElem?_eq_some_iff.1 hj).1
           rw[(hUT i hi).2.2.1.length,←(hUT i hi).2.1]at hjl
           have h2:(U i)[j]? =some (U i)[j]:=List.getElem?_eq_getElem hjl
           have:=hr.2 j c _ hj h2
           rw[List.getD_eq_getElem?_getD,h2]
           simpa using this
         rw[hes]at hq
         exact hq
       ·cases hx
   ·cases h
  ·rename_i fs hu
   split at h
   ·rename_i l' hl'
    cases hc:(l'.length==P.cellsOf t)with
    |false=>simp[hc]at h
    | true =>
     simp only[hc,cond_true,Option.some.injEq]at h
     subst h
     have hlen:=eq_of_beq hc
     obtain⟨xs,m,_,_,hl,hxl,hf⟩:=DataW.trod_struct hu hx
     have hl2:us.length=l'.length:=by rw[hl,hlen]
     obtain⟨tree,h1,h2⟩:=zKR (Z:=Z) (cs:=us) (fun t l hl fuel us x hx=>ih t l hl fuel us x hx) fs.toList 0 l' hl' (by omega) (fun i f hi=>by
      have:=hf i f (by simpa using hi)
      cases hxi:xs[i]? with
      |none=>
       have h3:=(List.getElem?_eq_some_iff.1 hi).1
       rw[Array.length_toList]at h3
       have h4:=List.getElem?_eq_none_iff.1 hxi
       omega
      |some y=>exact⟨m,y,by rw[this,hxi]⟩)
     refine⟨hl2,tree,h1,?_⟩
     rw[←hl2]at h2
     simpa using h2
   ·cases h
  ·cases h
end
end Go.TL
