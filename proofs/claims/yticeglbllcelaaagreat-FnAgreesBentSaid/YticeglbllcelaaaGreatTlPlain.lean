import Derived.Test.YticeglbllcelaaaGreatTlEnc
set_option linter.unusedVariables false
namespace Go.TL
theorem wrap64{z:Int}(h1: -9223372036854775808≤z)(h2:z<9223372036854775808):wI z=z:=by
 show(if(true&&decide (z%18446744073709551616≥9223372036854775808))=true then z%18446744073709551616-18446744073709551616 else z%18446744073709551616)=z
 by_cases h:z%18446744073709551616≥9223372036854775808
 ·rw[decide_eq_true h];simp only[Bool.and_self,if_true];omega
 ·rw[decide_eq_false h];simp only[Bool.and_false,Bool.false_eq_true,if_false];omega
theorem zQu{n:Int}(h:qx n): -9223372036854775808≤n∧n<9223372036854775808:=by
 simp[qx,Lit.wf,IntKind.min,IntKind.max,IntKind.signed,IntKind.bits]at h
 omega
theorem zK{α:Type}{xs:List α}{k:Nat}(h:k<xs.length):idx xs (k:Int)=some xs[k]:=by
 unfold idx
 rw[if_pos (by omega)]
 simp[h]
theorem zG8{α:Type}{xs:List α}{i:Int}(h0:0≤i)(h:i<xs.length):∃v,idx xs i=some v∧v∈xs:=by
 unfold idx
 rw[if_pos h0]
 have:i.toNat<xs.length:=by omega
 exact⟨xs[i.toNat],by simp[this],List.getElem_mem _⟩
theorem zJZ{α:Type}{xs:List α}{i:Int}{v:α}(h:idx xs i=some v):v∈xs:=by
 obtain⟨h1,h2⟩:=zU h
 exact List.mem_of_getElem? h2
theorem zQn{α β:Type}{L:Nat→List α→Int→List α→Option (List α⊕β)}
  (h:∀m xs i ys,L (m+1) xs i ys=bif decide (i<(xs.length:Int))then(idx xs i).bind fun v=>(idx ys i).bind fun _=>L m xs (wI (i+1)) (ys.set i.toNat v)else some (.inl ys)) (xs:List α) (hx:xs.length≤1099511627776):
  ∀(m k:Nat) (ys:List α),k≤xs.length→xs.length<m+k→ys.length=xs.length→ys.take k=xs.take k→L m xs k ys=some (.inl xs)
 |0,k,ys,h1,h2,_,_=>by omega
 | m + 1,k,ys,h1,h2,h3,h4 => by
  rw[h]
  by_cases hk:k<xs.length
  ·have hk':decide ((k:Int)<(xs.length:Int))=true:=decide_eq_true (by omega)
   rw[hk',zK hk,zK (by omega:k<ys.length),wrap64 (by omega) (by omega)]
   simp only[cond_true,Option.bind_some]
   have:=zQn h xs hx m (k+1) (ys.set k xs[k]) (by omega) (by omega) (by simp[h3]) (by
    refine List.ext_getElem? fun j=>?_
    have hj:=congrArg (fun l=>l[j]?) h4
    simp only[List.getElem?_take]at hj⊢
    by_cases hjk:j=k
    ·subst hjk
     simp[hk,h3]
    ·rw[List.getElem?_set_ne (Ne.symm hjk)]
     by_cases hlt:j<k
     ·rw[if_pos hlt,if_pos hlt]at hj
      rw[if_pos (by omega),if_pos (by omega)]
      exact hj
     ·rw[if_neg (by omega),if_neg (by omega)])
   simpa using this
  ·have hk':decide ((k:Int)<(xs.length:Int))=false:=decide_eq_false (by omega)
   have he:k=xs.length:=by omega
   rw[hk']
   simp only[cond_false]
   rw[he,List.take_length,List.take_of_length_le (by omega)]at h4
   rw[h4]
theorem zQR{α:Type}{f:α→α→Option Bool}{L:Nat→List α→List α→Int→Option (Unit⊕Bool)}
  (h:∀m xs ys i,L (m+1) xs ys i=bif decide (i<(xs.length:Int))then(idx xs i).bind fun v=>(idx ys i).bind fun u=>(f v u).bind fun r=>bif !r then some (.inr false)else L m xs ys (wI (i+1))else some (.inl ())) (xs:List α) (hx:xs.length≤1099511627776) (hf:∀v∈xs,f v v=some true):
  ∀(m k:Nat),k≤xs.length→xs.length<m+k→L m xs xs k=some (.inl ())
 |0,k,h1,h2=>by omega
 | m + 1,k,h1,h2 => by
  rw[h]
  by_cases hk:k<xs.length
  ·have hk':decide ((k:Int)<(xs.length:Int))=true:=decide_eq_true (by omega)
   rw[hk',zK hk,wrap64 (by omega) (by omega)]
   simp only[cond_true,Option.bind_some,hf _ (List.getElem_mem hk),Bool.not_true,cond_false]
   exact zQR h xs hx hf m (k+1) (by omega) (by omega)
  ·have hk':decide ((k:Int)<(xs.length:Int))=false:=decide_eq_false (by omega)
   rw[hk']
   rfl
theorem zNO{α γ:Type}{p:Int→α→Option γ}{L:Nat→List α→Int→Option (Unit⊕γ)}
  (h:∀m xs i,L (m+1) xs i=bif decide (i<(xs.length:Int))then(idx xs i).bind fun v=>match p i v with|some r=>some (.inr r)|none=>L m xs (wI (i+1))else some (.inl ())) (xs:List α) (hx:xs.length≤1099511627776):
  ∀(m k:Nat),k≤xs.length→xs.length<m+k→(L m xs k=some (.inl ())∧∀j (hj:j<xs.length),k≤j→p j xs[j]=none)∨
   ∃(j:Nat) (hj:j<xs.length) (r:γ),k≤j∧p j xs[j]=some r∧(∀j' (hj':j'<j),k≤j'→p j' (xs[j']'(by omega))=none)∧L m xs k=some (.inr r)
 |0,k,h1,h2=>by omega
 | m + 1,k,h1,h2 => by
  rw[h]
  by_cases hk:k<xs.length
  ·have hk':decide ((k:Int)<(xs.length:Int))=true:=decide_eq_true (by omega)
   rw[hk',zK hk,wrap64 (by omega) (by omega)]
   simp only[cond_true,Option.bind_some]
   cases hp:p k xs[k]with
   |some r=>
    right
    exact⟨k,hk,r,Nat.le_refl _,hp,fun j' h1 h2=>by omega,rfl⟩
   | none =>
    rcases zNO h xs hx m (k+1) (by omega) (by omega)with⟨e1,e2⟩|⟨j,hj,r,e1,e2,e3,e4⟩
    ·left
     refine⟨e1,fun j hj hkj=>?_⟩
     by_cases hjk:j=k
     ·subst hjk;exact hp
     ·exact e2 j hj (by omega)
    ·right
     refine⟨j,hj,r,by omega,e2,fun j' h1 h2=>?_,e4⟩
     by_cases hjk:j'=k
     ·subst hjk;exact hp
     ·exact e3 j' h1 (by omega)
  ·left
   have hk':decide ((k:Int)<(xs.length:Int))=false:=decide_eq_false (by omega)
   rw[hk']
   exact⟨rfl,fun j hj hkj=>by omega⟩
def Tot{α:Type}(o:Option α):Prop:=∃a,o=some a
theorem Tot.of{α:Type}{a:α} :Tot (some a):=⟨a,rfl⟩
theorem Tot.bif{α:Type}{c:Bool}{x y:Option α}(h1:c=true→Tot x)(h2:c=false→Tot y):Tot (bif c then x else y):=by
 cases c with
 |true=>exact h1 rfl
 |false=>exact h2 rfl
theorem Tot.bind{α β:Type}{x:Option α}{f:α→Option β}(h1:Tot x)(h2:∀a,x=some a→Tot (f a)):Tot (x.bind f):=by
 obtain⟨a,rfl⟩:=h1
 exact h2 a rfl
theorem Tot.step{α β:Type}{xs:List α}{k:Nat}{x y:Option β}(h1:k<xs.length→Tot x)(h2:Tot y):Tot (bif decide ((k:Int)<(xs.length:Int))then x else y):=
 Tot.bif (fun h=>h1 (by have:=of_decide_eq_true h;omega)) fun _=>h2
theorem zQW{α:Type}{xs:List α}{k:Nat}(h:k<xs.length):Tot (idx xs (k:Int)):=⟨_,zK h⟩
theorem zHm{k:Nat}(h:k≤1099511627776):wI ((k:Int)+1)=((k+1:Nat):Int):=by rw[wrap64 (by omega) (by omega)];rfl
theorem zKB(x:BitVec 64):wI (x.toNat:Int)=x.toInt:=by
 have h:=x.isLt
 show(if(true&&decide ((x.toNat:Int)%18446744073709551616≥9223372036854775808))=true then(x.toNat:Int)%18446744073709551616-18446744073709551616 else(x.toNat:Int)%18446744073709551616)=x.toInt
 rw[BitVec.toInt_eq_toNat_cond]
 by_cases hc:(x.toNat:Int)%18446744073709551616≥9223372036854775808
 ·rw[decide_eq_true hc];simp only[Bool.and_self,if_true];rw[if_neg (by omega)];omega
 ·rw[decide_eq_false hc];simp only[Bool.and_false,Bool.false_eq_true,if_false];rw[if_pos (by omega)];omega
theorem zDy{n:Int}(h:qx n):(BitVec.ofInt 64 n).toInt=n:=by
 have:=zQu h
 rw[BitVec.toInt_ofInt]
 exact Int.bmod_eq_of_le (by omega) (by omega)
theorem zKQ{n:Int}(h0:0≤n)(h1:n<9223372036854775808):((BitVec.ofInt 64 n).toNat:Int)=n:=by
 rw[BitVec.toNat_ofInt]
 omega
theorem zNh(b m:BitVec 64):b&&& ~~~m=0#64↔b&&&m=b:=by
 constructor
 ·intro h
  refine BitVec.eq_of_getLsbD_eq fun i hi=>?_
  have:=congrArg (fun x=>x.getLsbD i) h
  simp[hi]at this⊢
  exact this
 ·intro h
  refine BitVec.eq_of_getLsbD_eq fun i hi=>?_
  have:=congrArg (fun x=>x.getLsbD i) h
  simp[hi]at this⊢
  exact this
theorem zSf{B M:Int}(hB:qx B)(h0:0≤M)(h1:M<9223372036854775808)(h:wI (bO B&&&bO M).toNat=B):0≤B∧B≤M:=by
 have h:wI ((BitVec.ofInt 64 B&&&BitVec.ofInt 64 M).toNat:Int)=B:=h
 rw[zKB]at h
 have h:BitVec.ofInt 64 B&&&BitVec.ofInt 64 M=BitVec.ofInt 64 B:=BitVec.toInt_inj.1 (by rw[h,zDy hB])
 have hle:(BitVec.ofInt 64 B).toNat≤(BitVec.ofInt 64 M).toNat:=by
  rw[←h,BitVec.toNat_and]
  exact Nat.and_le_right
 have hM:=zKQ h0 h1
 have hBi:=zDy hB
 rw[BitVec.toInt_eq_toNat_cond]at hBi
 rw[if_pos (by omega)]at hBi
 exact⟨by omega,by omega⟩
theorem zSe{B M:Int}(hB:qx B)(h0:0≤M)(h1:M<9223372036854775808):
  (wI (bO B&&& ~~~bO M).toNat=0↔0≤B∧B≤M∧wI (bO B&&&bO M).toNat=B):=by
 show wI ((BitVec.ofInt 64 B&&& ~~~BitVec.ofInt 64 M).toNat:Int)=0↔0≤B∧B≤M∧wI ((BitVec.ofInt 64 B&&&BitVec.ofInt 64 M).toNat:Int)=B
 rw[zKB,zKB]
 have e1:((BitVec.ofInt 64 B&&& ~~~BitVec.ofInt 64 M).toInt=0)↔BitVec.ofInt 64 B&&& ~~~BitVec.ofInt 64 M=0#64:=by
  constructor
  ·intro h;exact BitVec.toInt_inj.1 (by rw[h];rfl)
  ·intro h;rw[h];rfl
 have e2:((BitVec.ofInt 64 B&&&BitVec.ofInt 64 M).toInt=B)↔BitVec.ofInt 64 B&&&BitVec.ofInt 64 M=BitVec.ofInt 64 B:=by
  constructor
  ·intro h;exact BitVec.toInt_inj.1 (by rw[h,zDy hB])
  ·intro h;rw[h,zDy hB]
 rw[e1,e2,zNh]
 refine⟨fun h=>?_,fun h=>h.2.2⟩
 have hle:(BitVec.ofInt 64 B).toNat≤(BitVec.ofInt 64 M).toNat:=by
  rw[←h,BitVec.toNat_and]
  exact Nat.and_le_right
 have hM:=zKQ h0 h1
 have hBi:=zDy hB
 rw[BitVec.toInt_eq_toNat_cond]at hBi
 rw[if_pos (by omega)]at hBi
 exact⟨by omega,by omega,h⟩
theorem qU{k n:Nat}(h:k<n):decide ((k:Int)<(n:Int))=true:=decide_eq_true (by omega)
theorem z6{n:Nat} :decide ((n:Int)<(n:Int))=false:=decide_eq_false (by omega)
def Ju{α:Type}(sz:α→Nat):List α→Nat
 |[]=>0
 |v::xs=>sz v+Ju sz xs
theorem zE1{α:Type}{sz:α→Nat} :∀ {xs:List α} {v:α},v∈xs→sz v≤Ju sz xs
 |x::xs,v,h=>by
  rcases List.mem_cons.1 h with e|h
  ·subst e;simp only[Ju];omega
  ·have:=zE1 (sz:=sz) h;simp only[Ju];omega
theorem wQ{z:Int}(h1: -9223372036854775808≤z:=by omega)(h2:z<9223372036854775808:=by omega):wI z=z:=wrap64 h1 h2
theorem vQ(k:Nat)(h:k≤1099511627776:=by omega):wI ((k:Int)+1)=((k+1:Nat):Int):=zHm h
theorem bQ{α β:Type}(a:α)(f:α→Option β):(some a).bind f=f a:=rfl
theorem cQ{α:Type}(a b:α):cond true a b=a:=rfl
theorem fQ{α:Type}(a b:α):cond false a b=b:=rfl
theorem nQ:(!true)=false:=rfl
theorem tQ{p:Prop} [Decidable p] (h:p):decide p=true:=decide_eq_true h
theorem dQ{p:Prop} [Decidable p] (h:¬p):decide p=false:=decide_eq_false h
end Go.TL
