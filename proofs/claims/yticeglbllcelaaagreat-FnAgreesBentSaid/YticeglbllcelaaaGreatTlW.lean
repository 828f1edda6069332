import Derived.Test.YticeglbllcelaaaGreatTlV
set_option linter.unusedVariables false
namespace Go.TL
def zv:Value→Value→Bool
 |.int k n,.int k' m=>eqK k k'&&n==m
 |.bool a,.bool b=>a==b
 |.string a,.string b=>a.size==0&&b.size==0
 |_,_=>false
def zPP:List Value→List CV→Bool
 |[],[]=>true
 |.slice none 0 0::vs,.sl true _ []::cs=>zPP vs cs
 |v::vs,.lit u::cs=>zv v u&&zPP vs cs
 |_,_=>false
theorem zUh{v u:Value}(h:zv v u=true):v=u∧v.oneCell'=true:=by
 unfold zv at h
 split at h
 ·rw[Bool.and_eq_true]at h
  have h1:=zLx h.1
  have h2:=eq_of_beq h.2
  subst h1;subst h2
  exact⟨rfl,rfl⟩
 ·have:=eq_of_beq h
  subst this;exact⟨rfl,rfl⟩
 ·rename_i a b
  rw[Bool.and_eq_true]at h
  have h1:a.size=0:=by simpa using h.1
  have h2:b.size=0:=by simpa using h.2
  have e:a=b:=by
   cases a with|mk a=>cases b with|mk b=>
   have h1:a.size=0:=h1
   have h2:b.size=0:=h2
   rw[Array.eq_empty_of_size_eq_zero h1,Array.eq_empty_of_size_eq_zero h2]
  subst e;exact⟨rfl,rfl⟩
 ·cases h
theorem zSy:∀ {vs:List Value} {cs:List CV},zPP vs cs=true→zOk vs cs:=by
 intro vs
 induction vs with
 |nil=>
  intro cs h
  cases cs with
  |nil=>trivial
  |cons c cs=>simp[zPP]at h
 | cons v vs ih =>
  intro cs h
  cases cs with
  |nil=>simp[zPP]at h
  | cons c cs =>
   cases c with
   | lit u =>
    have h':(zv v u&&zPP vs cs)=true:=by
     unfold zPP at h
     split at h
     ·rename_i e;cases e
     ·rename_i e;cases e
     ·rename_i e1 e2;cases e1;cases e2;exact h
     ·cases h
    rw[Bool.and_eq_true]at h'
    have h1:=zUh h'.1
    simp only[zOk]
    exact⟨h1.1,h1.2,ih h'.2⟩
   |dead=>
    unfold zPP at h
    split at h
    ·rename_i e;cases e
    ·rename_i e;cases e
    ·rename_i e1 e2;cases e2
    ·cases h
   | sl own sz es =>
    unfold zPP at h
    split at h
    ·rename_i e;cases e
    ·rename_i e1 e2;cases e1;cases e2
     simp only[zOk]
     exact ih h
    ·rename_i e1 e2;cases e2
    ·cases h
def zUs:Bool→Value→Bool
 |true,.agg _=>true
 |true,_=>false
 |false,v=>v.oneCell'
theorem zSx{ag:Bool}{v:Value}(h:zUs ag v=true):shp ag v:=by
 cases ag with
 |false=>exact h
 |true=>cases v<;>first|exact⟨_,rfl⟩|cases h
def fsB(P:Program):List Field→List (Nat×Nat×TypeId)→Bool
 |[],[]=>true
 |f::fs,(o,s,ft)::gs=>f.offset==o&&(match P.info? f.type with|some fi=>fi.size==s|none=>false)&&fsB P fs gs
 |_,_=>false
theorem zSK{P:Program} :∀ {fs:List Field} {gs:List (Nat×Nat×TypeId)},fsB P fs gs=true→fs.length=gs.length∧∀(j:Nat) o s ft,gs[j]? =some (o,s,ft)→∃f fi,fs[j]? =some f∧f.offset=o∧P.info? f.type=some fi∧fi.size=s
 |[],[],h=>⟨rfl,fun j o s ft h=>by simp at h⟩
 |[],_::_,h=>by simp[fsB]at h
 |_::_,[],h=>by simp[fsB]at h
 | f :: fs,(o,s,ft) :: gs,h => by
  simp only[fsB,Bool.and_eq_true]at h
  obtain⟨⟨h1,h2⟩,h3⟩:=h
  obtain⟨i1,i2⟩:=zSK h3
  refine⟨by simp[i1],fun j o' s' ft' hj=>?_⟩
  cases j with
  | zero =>
   simp only[List.getElem?_cons_zero,Option.some.injEq,Prod.mk.injEq]at hj
   obtain⟨rfl,rfl,rfl⟩:=hj
   split at h2
   ·rename_i fi hfi
    exact⟨f,fi,rfl,by simpa using h1,hfi,by simpa using h2⟩
   ·cases h2
  |succ j=>exact i2 j o' s' ft' (by simpa using hj)
def zTA(P:Program)(t:TypeId)(i:TI):Bool:=match i.k with
 |.int k=>match P.underlying t with|some (.int k')=>eqK k' k|_=>false
 |.bool=>match P.underlying t with|some .bool=>true|_=>false
 |.str=>match P.underlying t with|some .string=>true|_=>false
 |.sl e=>match P.underlying t with|some (.slice e')=>e'==e|_=>false
 |.ptr e=>match P.underlying t with|some (.pointer e')=>e'==e|_=>false
 |.st fs=>match P.underlying t with|some (.struct fields)=>fsB P fields.toList fs|_=>false
def zS9(P:Program)(t:TypeId)(i:TI):Bool:=match P.info? t with
 |some info=>info.size==i.size&&info.bytes==i.bytes&&(match info.zero with
  |some z=>zPP z.cells.toList i.zero&&zUs i.ag z&&i.zero.length==i.size
  |none=>false)
 |none=>false
def tiB(P:Program)(t:TypeId)(i:TI):Bool:=zS9 P t i&&(i.ag||i.size==1)&&zTA P t i
theorem zTq{P:Program}{t:TypeId}{i:TI}(h:tiB P t i=true):i.Ok P t:=by
 simp only[tiB,Bool.and_eq_true]at h
 obtain⟨⟨h1,h2⟩,h3⟩:=h
 unfold zS9 at h1
 split at h1
 ·rename_i info hi
  simp only[Bool.and_eq_true]at h1
  obtain⟨⟨a1,a2⟩,a3⟩:=h1
  split at a3
  ·rename_i z hz
   simp only[Bool.and_eq_true]at a3
   obtain⟨⟨b1,b2⟩,b3⟩:=a3
   refine⟨info,hi,by simpa using a1,by simpa using a2,⟨z,hz,zSy b1,zSx b2,by simpa using b3⟩,fun he=>?_,?_⟩
   ·rw[he]at h2
    simpa using h2
   ·unfold zTA at h3
    split<;>rename_i hk<;>rw[hk]at h3<;>simp only at h3
    ·split at h3
     ·rename_i hu;rw[hu,zLx h3]
     ·cases h3
    ·split at h3
     ·assumption
     ·cases h3
    ·split at h3
     ·assumption
     ·cases h3
    ·split at h3
     ·rename_i hu
      rw[hu,eq_of_beq h3]
     ·cases h3
    ·split at h3
     ·rename_i hu
      rw[hu,eq_of_beq h3]
     ·cases h3
    ·split at h3
     ·rename_i fields hu
      obtain⟨g1,g2⟩:=zSK h3
      refine⟨fields,hu,by simpa using g1,fun j o s ft hj=>?_⟩
      obtain⟨f,fi,k1,k2⟩:=g2 j o s ft hj
      exact⟨f,fi,by simpa using k1,k2⟩
     ·cases h3
  ·cases a3
 ·cases h1
theorem zTr{P:Program}{tab:List (Nat×TI)}(h:(tab.all fun x=>tiB P x.1 x.2)=true):TOk P (lk tab):=by
 intro t i hi
 rw[List.all_eq_true]at h
 exact zTq (h (t,i) (zw hi))
end Go.TL
