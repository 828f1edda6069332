import Derived.Test.YticeglbllcelaaaGreatTwAB
import Derived.Test.YticeglbllcelaaaGreatTlPlain
set_option linter.unusedVariables false
set_option linter.unusedSimpArgs false
set_option maxRecDepth 100000
set_option maxHeartbeats 1000000
namespace Go.Proofs.YticeglbllcelaaaGreat.Tw
open Go Go.TL Go.Proofs
def zm.sz(x:zm):Nat:=x.Rows.length+x.Pv.length
theorem zJa(n:Nat):zDX n=Qn n:=by
 funext m
 induction m with
 |zero=>rfl
 |succ m ih=>funext x i y;simp only[zDX,Qn,ih]
theorem zLL(n:Nat):zHV n=zAU n:=by
 funext x i;simp only[zHV,zAU,zJa];rfl
theorem zEt(n:Nat)(x:zm)(id:Int)(h:x.Rows.length≤1048580)(hn:x.Rows.length<n):∃r,zAU n x id=some r∧(r= -1∧(∀v∈x.Rows,v.Id≠id)∨∃v,0≤r∧idx x.Rows r=some v∧v.Id=id):=by
 unfold zAU
 have hf:=zNO (L:=fun m xs i=>Qn n m ⟨xs,x.Pv⟩ id i) (p:=fun i v=>bif v.Id==id then some i else none) (fun m xs i=>by
  show(bif _ then _ else _)= _
  congr 1
  congr 1
  funext v
  cases(v.Id==id)<;>rfl) x.Rows (by omega) n 0 (by omega) (by omega)
 rcases hf with⟨e1,e2⟩|⟨j,hj,r,e1,e2,e3,e4⟩
 ·rw[show Qn n n x id 0= _ from e1]
  refine⟨-1,rfl,.inl ⟨rfl,fun v hv=>?_⟩⟩
  obtain⟨j,hj,rfl⟩:=List.getElem_of_mem hv
  have:=e2 j hj (by omega)
  intro hid
  simp[hid]at this
 ·rw[show Qn n n x id 0= _ from e4]
  have hid:(x.Rows[j].Id==id)=true:=by
   cases hc:(x.Rows[j].Id==id)with
   |true=>rfl
   |false=>rw[hc]at e2;cases e2
  rw[hid]at e2
  cases e2
  exact⟨_,rfl,.inr ⟨_,by omega,zK hj,by simpa using hid⟩⟩
theorem zBQ(n:Nat)(a b c:Int):Tot (ze n a b c):=Tot.bif (fun _=>.of) (fun _=>.of)
theorem zCj(n:Nat):zAQ n=qK n:=rfl
theorem zB9(n:Nat)(v:Vec):Tot (qK n v):=by
 unfold qK
 repeat' first|exact Tot.of|refine Tot.bind (zBQ _ _ _ _) fun _ _=>?_|refine Tot.bif (fun _=>?_) (fun _=>?_)
theorem zJb(n:Nat):zDZ n=Yt n:=rfl
theorem zIl(n:Nat)(v:Vec)(c:Int):Tot (Yt n v c):=by
 unfold Yt
 repeat' first|exact Tot.of|refine Tot.bind (zBQ _ _ _ _) fun _ _=>?_|refine Tot.bind (zB9 _ _) fun _ _=>?_|refine Tot.bif (fun _=>?_) (fun _=>?_)
theorem zFs(n:Nat):zBt n=Jp n:=rfl
theorem zFI(n:Nat)(v u:Vec):Tot (Jp n v u):=by
 unfold Jp
 repeat' first|exact Tot.of|refine Tot.bif (fun _=>?_) (fun _=>?_)
theorem zEC(n:Nat)(x0:Int)(x1:List Pt)(h:x1.length≤1048576):∀(m k:Nat) (y2 y3 y4 y5 y6 y7 y8 y9 y10:Int),k≤x1.length→x1.length<m+k→Tot (qR n m x0 x1 k y2 y3 y4 y5 y6 y7 y8 y9 y10)
 |0,k,y2,y3,y4,y5,y6,y7,y8,y9,y10,h1,h2=>by omega
 |m+1,k,y2,y3,y4,y5,y6,y7,y8,y9,y10,h1,h2=>by
  rw[qR]
  refine Tot.step (fun hk=>?_) .of
  have ih:=fun y2 y3 y4 y5 y6 y7 y8 y9 y10=>zEC n x0 x1 h m (k+1) y2 y3 y4 y5 y6 y7 y8 y9 y10 (by omega) (by omega)
  simp only[QM,vQ k]
  repeat' first|exact ih _ _ _ _ _ _ _ _ _|exact Tot.of|refine Tot.bind (zQW hk) fun _ _=>?_|refine Tot.bind (zIl _ _ _) fun _ _=>?_|refine Tot.bind (zFI _ _ _) fun _ _=>?_|refine Tot.bif (fun _=>?_) (fun _=>?_)
theorem zA1(n:Nat)(x0:Int)(x1:List Pt)(h:x1.length≤1048576)(hn:x1.length<n):Tot (Qm n x0 x1):=by
 unfold Qm
 refine Tot.bind (zEC n x0 x1 h n 0 _ _ _ _ _ _ _ _ _ (by omega) (by omega)) fun o _=>?_
 cases o<;>exact Tot.of
theorem zIP(n:Nat):qu n=qR n:=by
 funext m
 induction m with
 |zero=>rfl
 |succ m ih=>
  funext x0 x1 y1 y2 y3 y4 y5 y6 y7 y8 y9 y10
  simp only[qu,qR,ih,Q1,QM,zJb,zFs]
  cases idx x1 y1<;>rfl
theorem zDI(n:Nat):Jn n=Qm n:=by
 funext x i;simp only[Jn,Qm,zIP];rfl
theorem zB5(n:Nat):zBi n=ZF n:=by
 funext x i y;simp only[zBi,ZF,zDI]
theorem J3(n:Nat)(x0:Int)(x1:List Pt)(x2:Int)(h:x1.length≤1048576)(hn:x1.length<n):Tot (ZF n x0 x1 x2):=Tot.bind (zA1 n x0 x1 h hn) fun _ _=>.of
theorem zKh(n:Nat):zCy n=zAX n:=by
 funext x i y;simp only[zCy,zAX,zDI,zB5,zFs];rfl
theorem zKr(n:Nat)(x0:Int)(x1:List Pt)(x2:Int)(h:x1.length≤1048576)(hn:x1.length<n):∃r,zAX n x0 x1 x2=some r∧1≤r∧r≤4:=by
 unfold zAX ze
 rw[wQ]
 obtain⟨b,hb⟩:=zA1 n x0 x1 h hn
 obtain⟨s,hs⟩:=J3 n x0 x1 x2 h hn
 by_cases h1:x2≥0
 ·by_cases h2:x2≤(x1.length:Int)-1
  ·obtain⟨v,hv,_⟩:=zG8 (xs:=x1) h1 (by omega)
   obtain⟨l,hl⟩:=zFI n s v.Hd
   simp only[tQ h1,tQ h2,cQ,bQ,nQ,fQ,hb,hs,hv,hl]
   cases v.Up<;>cases(b.2==x2)<;>cases v.Has<;>cases l<;>exact⟨_,rfl,by decide,by decide⟩
  ·simp only[tQ h1,dQ h2,cQ,bQ,Bool.not_false]
   exact⟨_,rfl,by decide,by decide⟩
 ·simp only[dQ h1,fQ,bQ,Bool.not_false,cQ]
  exact⟨_,rfl,by decide,by decide⟩
theorem zSY{k:Nat}(h:k≤1099511627776):IntKind.wrap .u64 (k:Int)=k:=by
 show((k:Int)%18446744073709551616)=k
 omega
theorem zEf(n:Nat)(x0:Int)(x1:List Pt)(h:x1.length≤1048576)(hn:x1.length<n):∀(m k:Nat) (y2:Int),k≤x1.length→x1.length<m+k→Qj n m x0 x1 k y2=Zp n m x0 x1 k y2∧Tot (Zp n m x0 x1 k y2)
 |0,k,y2,h1,h2=>by omega
 | m + 1,k,y2,h1,h2 => by
  rw[Zp,Qj]
  by_cases hk:k<x1.length
  ·have ih:=fun y2=>zEf n x0 x1 h hn m (k+1) y2 (by omega) (by omega)
   obtain⟨r,hr,r1,r2⟩:=zKr n x0 x1 k h hn
   have hk':decide ((k:Int)<(x1.length:Int))=true:=tQ (by omega)
   have h0:decide ((0:Int)≤(k:Int))=true:=tQ (by omega)
   simp only[hk',vQ k,zSY (by omega:k≤1099511627776),zKh,hr,bQ,h0,cQ,(ih _).1,true_and]
   have hc:r=1∨r=2∨r=3∨r=4:=by omega
   rcases hc with rfl|rfl|rfl|rfl<;>cases(decide ((k:Int)<6))<;>first|exact⟨rfl,(ih _).2⟩|exact⟨by trivial,Tot.of⟩
  ·have hk':decide ((k:Int)<(x1.length:Int))=false:=dQ (by omega)
   rw[hk']
   exact⟨by trivial,Tot.of⟩
theorem zFy(n:Nat)(x0:Int)(x1:List Pt)(h:x1.length≤1048576)(hn:x1.length<n):zBS n x0 x1=Zs n x0 x1∧Tot (Zs n x0 x1):=by
 obtain⟨h1,o,h2⟩:=zEf n x0 x1 h hn n 0 0 (by omega) (by omega)
 unfold zBS Zs
 have e1:Qj n n x0 x1 0 0=some o:=h1.trans h2
 have e2:Zp n n x0 x1 0 0=some o:=h2
 rw[e1,e2]
 cases o<;>exact⟨by trivial,Tot.of⟩
theorem qe(n:Nat):ql n=ze n:=rfl
theorem zV(n:Nat)(a b c:Int):ze n a b c=some (decide (b≤a)&&decide (a≤c)):=by
 unfold ze
 by_cases h:a≥b
 ·rw[tQ h];rfl
 ·rw[dQ h];rfl
theorem zF0{p:Int}(h0:1≤p)(h1:p≤6):∃a:Int,0≤a∧a<9223372036854775808∧(wI ((wI (1*2^min ((IntKind.wrap .u64 p)).toNat (IntKind.bits .i64)))-1))=a∧(wI ((wI (1*2^min (p).toNat (IntKind.bits .i64)))-1))=a∧decide (0≤(IntKind.wrap .u64 p))=true∧decide (0≤p)=true:=by
 have hc:p=1∨p=2∨p=3∨p=4∨p=5∨p=6:=by omega
 rcases hc with rfl|rfl|rfl|rfl|rfl|rfl
 ·exact⟨1,by decide,by decide,by decide,by decide,by decide,by decide⟩
 ·exact⟨3,by decide,by decide,by decide,by decide,by decide,by decide⟩
 ·exact⟨7,by decide,by decide,by decide,by decide,by decide,by decide⟩
 ·exact⟨15,by decide,by decide,by decide,by decide,by decide,by decide⟩
 ·exact⟨31,by decide,by decide,by decide,by decide,by decide,by decide⟩
 ·exact⟨63,by decide,by decide,by decide,by decide,by decide,by decide⟩
theorem zEG(n:Nat)(x0:zm)(w0:x0.wf)(x1:Int)(hp0:1≤x1)(hp1:x1≤6)(h:x0.Rows.length≤1048580):∀(m k:Nat),k≤x0.Rows.length→x0.Rows.length<m+k→zAA n m x0 x1 k=ZV n m x0 x1 k∧Tot (ZV n m x0 x1 k)
 |0,k,h1,h2=>by omega
 | m + 1,k,h1,h2 => by
  rw[ZV,zAA]
  by_cases hk:k<x0.Rows.length
  ·obtain⟨ih1,o,ih2⟩:=zEG n x0 w0 x1 hp0 hp1 h m (k+1) (by omega) (by omega)
   obtain⟨a,ha0,ha1,ha2,ha3,ha4,ha5⟩:=zF0 hp0 hp1
   have hk':decide ((k:Int)<(x0.Rows.length:Int))=true:=tQ (by omega)
   have hv:x0.Rows[k]∈x0.Rows:=List.getElem_mem hk
   have hi:=zK hk
   generalize x0.Rows[k]=v at hv hi
   have hw:=w0.1.2 v hv
   have hin:zCk n x1=some a:=by unfold zCk;rw[ha5,ha3];rfl
   simp only[hk',vQ k,hi,bQ,cQ,ih1,ih2,hin,qe,zV,ha2]
   have hbits:=fun hm0 hm1=>zSe (B:=v.Bare) (M:=v.Members) hw.2.2.1 hm0 hm1
   by_cases hm:0≤v.Members∧v.Members≤a
   ·have hb:=hbits hm.1 (by omega)
    simp only[tQ hm.1,tQ hm.2,Bool.and_self,nQ,fQ]
    by_cases hz:wI (bO v.Bare&&& ~~~bO v.Members).toNat=0
    ·have h3:=hb.1 hz
     have hz':((wI (bO v.Bare&&& ~~~bO v.Members).toNat) != 0)=false:=by rw[hz];rfl
     have hy':((wI (bO v.Bare&&&bO v.Members).toNat) != v.Bare)=false:=by rw[h3.2.2];simp
     simp only[hz',hy',tQ h3.1,tQ (show v.Bare≤a by omega),Bool.and_self,nQ,fQ]
     cases k with
     |zero=>cases(decide (1≤v.Id)&&decide (v.Id≤99))<;>exact⟨by trivial,Tot.of⟩
     |succ k=>
      have hw2:wI (((k+1:Nat):Int)-1)=(k:Int):=by rw[wQ];omega
      have hpos:decide (((k+1:Nat):Int)>0)=true:=tQ (by omega)
      simp only[hw2,hpos,cQ,zK (show k<x0.Rows.length by omega),bQ]
      cases(decide (1≤v.Id)&&decide (v.Id≤99))<;>cases(decide ((x0.Rows[k]'(by omega)).Id≥v.Id))<;>exact⟨by trivial,Tot.of⟩
    ·have hz':((wI (bO v.Bare&&& ~~~bO v.Members).toNat) != 0)=true:=by simpa using hz
     have h3:(decide (0≤v.Bare)&&decide (v.Bare≤a))=false∨((wI (bO v.Bare&&&bO v.Members).toNat) != v.Bare)=true:=by
      by_cases hq:((wI (bO v.Bare&&&bO v.Members).toNat) != v.Bare)=true
      ·exact .inr hq
      ·left
       simp at hq
       by_cases hr:0≤v.Bare∧v.Bare≤a
       ·have hle:=zSf hw.2.2.1 hm.1 (by omega) hq
        exact absurd (hb.2 ⟨hle.1,hle.2,hq⟩) hz
       ·simp only[Bool.and_eq_false_iff,decide_eq_false_iff_not];omega
     simp only[hz',cQ]
     have hspec:(bif !(decide (0≤v.Bare)&&decide (v.Bare≤a))then some (Sum.inr false)else bif ((wI (bO v.Bare&&&bO v.Members).toNat) != v.Bare)then some (Sum.inr false)else(bif decide ((k:Int)>0)then(idx x0.Rows (wI ((k:Int)-1))).bind fun v13=>bif decide (v13.Id≥v.Id)then some (Sum.inr false)else some o else some o))=(some (Sum.inr false):Option (Unit⊕Bool)):=by
      rcases h3 with h3|h3
      ·rw[h3];rfl
      ·rw[h3];cases(decide (0≤v.Bare)&&decide (v.Bare≤a))<;>rfl
     rw[hspec]
     cases k with
     |zero=>cases(decide (1≤v.Id)&&decide (v.Id≤99))<;>exact⟨by trivial,Tot.of⟩
     |succ k=>
      have hw2:wI (((k+1:Nat):Int)-1)=(k:Int):=by rw[wQ];omega
      have hpos:decide (((k+1:Nat):Int)>0)=true:=tQ (by omega)
      simp only[hw2,hpos,cQ,zK (show k<x0.Rows.length by omega),bQ]
      cases(decide (1≤v.Id)&&decide (v.Id≤99))<;>cases(decide ((x0.Rows[k]'(by omega)).Id≥v.Id))<;>exact⟨by trivial,Tot.of⟩
   ·have hm':(decide (0≤v.Members)&&decide (v.Members≤a))=false:=by
     simp only[Bool.and_eq_false_iff,decide_eq_false_iff_not];omega
    simp only[hm',Bool.not_false,cQ]
    cases k with
    |zero=>cases(decide (1≤v.Id)&&decide (v.Id≤99))<;>exact⟨by trivial,Tot.of⟩
    |succ k=>
     have hw2:wI (((k+1:Nat):Int)-1)=(k:Int):=by rw[wQ];omega
     have hpos:decide (((k+1:Nat):Int)>0)=true:=tQ (by omega)
     simp only[hw2,hpos,cQ,zK (show k<x0.Rows.length by omega),bQ]
     cases(decide (1≤v.Id)&&decide (v.Id≤99))<;>cases(decide ((x0.Rows[k]'(by omega)).Id≥v.Id))<;>exact⟨by trivial,Tot.of⟩
  ·have hk':decide ((k:Int)<(x0.Rows.length:Int))=false:=dQ (by omega)
   rw[hk']
   exact⟨by trivial,Tot.of⟩
theorem zEF(n:Nat)(x0:zm)(h:x0.Rows.length≤1048580)(hn:x0.Rows.length<n)(hq:x0.Pv.length≤1048580):∀(m k:Nat),k≤x0.Pv.length→x0.Pv.length<m+k→zBI n m x0 k=Zi n m x0 k∧Tot (Zi n m x0 k)
 |0,k,h1,h2=>by omega
 | m + 1,k,h1,h2 => by
  rw[Zi,zBI]
  by_cases hk:k<x0.Pv.length
  ·obtain⟨ih1,o,ih2⟩:=zEF n x0 h hn hq m (k+1) (by omega) (by omega)
   have hk':decide ((k:Int)<(x0.Pv.length:Int))=true:=tQ (by omega)
   obtain⟨r,hr,_⟩:=zEt n x0 x0.Pv[k] h hn
   simp only[hk',vQ k,zK hk,bQ,cQ,ih1,ih2,zLL,hr]
   cases decide (r<0)<;>exact⟨by trivial,Tot.of⟩
  ·have hk':decide ((k:Int)<(x0.Pv.length:Int))=false:=dQ (by omega)
   rw[hk']
   exact⟨by trivial,Tot.of⟩
theorem zIm(n:Nat)(x0:zm)(w0:x0.wf)(x1:Int)(h:x0.sz≤1048580)(hn:x0.sz<n):zGT n x0 x1=qN n x0 x1∧Tot (qN n x0 x1):=by
 have hs:x0.Rows.length+x0.Pv.length=x0.sz:=rfl
 unfold zGT qN
 simp only[qe,zV,bQ]
 by_cases hp:1≤x1∧x1≤6
 ·obtain⟨a,ha0,ha1,ha2,ha3,ha4,ha5⟩:=zF0 hp.1 hp.2
  obtain⟨e1,o,e2⟩:=zEG n x0 w0 x1 hp.1 hp.2 (by omega) n 0 (by omega) (by omega)
  obtain⟨f1,q,f2⟩:=zEF n x0 (by omega) (by omega) (by omega) n 0 (by omega) (by omega)
  have e1':zAA n n x0 x1 0=some o:=e1.trans e2
  have e2':ZV n n x0 x1 0=some o:=e2
  have f1':zBI n n x0 0=some q:=f1.trans f2
  have f2':Zi n n x0 0=some q:=f2
  simp only[tQ hp.1,tQ hp.2,Bool.and_self,nQ,fQ,ha4,cQ,e1',e2',bQ]
  cases o with
  |inl u=>
   simp only[zHN,JD,f1',f2',bQ]
   cases q<;>exact⟨rfl,Tot.bif (fun _=>.of) fun _=>Tot.bif (fun _=>.of) fun _=>.of⟩
  |inr r=>exact⟨rfl,Tot.bif (fun _=>.of) fun _=>Tot.bif (fun _=>.of) fun _=>.of⟩
 ·have hp':(decide (1≤x1)&&decide (x1≤6))=false:=by
   simp only[Bool.and_eq_false_iff,decide_eq_false_iff_not];omega
  rw[hp']
  exact⟨by trivial,Tot.of⟩
theorem zAi(n:Nat)(x:zm)(h:x.sz≤268435456):Z7 n x=some x:=by
 have hs:x.Rows.length+x.Pv.length=x.sz:=rfl
 unfold Z7
 simp only[List.length_nil,Nat.zero_add,tQ (show x.Rows.length≤268435456 by omega),tQ (show x.Pv.length≤268435456 by omega),cQ,List.nil_append]
theorem zIe(n:Nat)(x:zm)(h:x.sz≤268435456):zEq n x=some x:=by
 have hs:x.Rows.length+x.Pv.length=x.sz:=rfl
 unfold zEq JC
 simp only[List.length_nil,Nat.zero_add,tQ (show x.Rows.length≤268435456 by omega),tQ (show x.Pv.length≤268435456 by omega),cQ,List.nil_append,bQ]
theorem zL7{α:Type}{wf:α→Prop}{xs ys:List α}(h:zAt wf xs)(hs:∀y∈ys,y∈xs)(hl:ys.length≤xs.length):zAt wf ys:=⟨Nat.le_trans hl h.1,fun y hy=>h.2 y (hs y hy)⟩
theorem zDa{α:Type}{wf:α→Prop}{xs:List α}{i:Nat}{v:α}(h:zAt wf xs)(hv:wf v):zAt wf (xs.set i v):=⟨by rw[List.length_set];exact h.1,fun y hy=>by
 rcases List.mem_or_eq_of_mem_set hy with h1|h1
 ·exact h.2 y h1
 ·rw[h1];exact hv⟩
def zA.sz(x:zA):Nat:=x.Name.size+x.Ps.length+x.F.length+x.V.sz
theorem zMr(n:Nat):zIV n=qZ n:=by
 funext v
 unfold zIV qZ
 rw[qe,zCj]
 obtain⟨b,hb⟩:=zBQ n v.Co 1 1000
 rw[hb]
 cases b<;>cases v.Up<;>cases v.Has<;>rfl
theorem zHQ(n:Nat)(v:Pt):Tot (qZ n v):=by
 unfold qZ
 repeat' first|exact Tot.of|refine Tot.bind (zBQ _ _ _ _) fun _ _=>?_|refine Tot.bind (zB9 _ _) fun _ _=>?_|refine Tot.bif (fun _=>?_) (fun _=>?_)
theorem zD7(n:Nat)(v:zM):Tot (Zt n v):=by
 unfold Zt
 repeat' first|exact Tot.of|refine Tot.bind (zBQ _ _ _ _) fun _ _=>?_|refine Tot.bif (fun _=>?_) (fun _=>?_)
theorem zKk(n:Nat):zIz n=Zt n:=rfl
theorem zKi(n:Nat)(v u:zM):zGU n u v.Tag v.Mac=QL n v u.Tag u.Mac:=by
 unfold zGU QL
 by_cases h1:v.Tag=u.Tag
 ·simp[h1]
 ·have e1:(v.Tag != u.Tag)=true:=by simpa using h1
  have e2:(u.Tag==v.Tag)=false:=by simpa using fun e:u.Tag=v.Tag=>h1 e.symm
  rw[e1,e2]
  by_cases h2:v.Tag<u.Tag
  ·rw[tQ h2];rfl
  ·rw[dQ h2];rfl
theorem zFP(n:Nat)(v:zM)(a b:Int):Tot (QL n v a b):=Tot.bif (fun _=>.of) (fun _=>.of)
theorem zEd(n:Nat)(xs:List zM)(h:xs.length≤1048580):∀(m k:Nat),k≤xs.length→xs.length<m+k→zAn n m xs k=qt n m xs k∧Tot (qt n m xs k)
 |0,k,h1,h2=>by omega
 | m + 1,k,h1,h2 => by
  rw[qt,zAn]
  by_cases hk:k<xs.length
  ·obtain⟨ih1,o,ih2⟩:=zEd n xs h m (k+1) (by omega) (by omega)
   rw[qU hk]
   obtain⟨a,ha⟩:=zD7 n xs[k]
   simp only[vQ k,zK hk,bQ,cQ,ih1,ih2,zKk,ha]
   cases k with
   |zero=>cases a<;>exact⟨by trivial,Tot.of⟩
   |succ k=>
    have hw2:wI (((k+1:Nat):Int)-1)=(k:Int):=by rw[wQ];omega
    have hpos:decide (((k+1:Nat):Int)>0)=true:=tQ (by omega)
    obtain⟨b,hb⟩:=zFP n (xs[k]'(by omega)) xs[k+1].Tag xs[k+1].Mac
    simp only[hw2,hpos,cQ,zK (show k<xs.length by omega),bQ,zKi,hb]
    cases a<;>cases b<;>exact⟨by trivial,Tot.of⟩
  ·have he:k=xs.length:=by omega
   rw[he,z6]
   exact⟨rfl,Tot.of⟩
theorem zJh(n:Nat)(xs:List zM)(h:xs.length≤1048580)(hn:xs.length<n):∃b,Zr n xs=some b∧zHT n xs=some b:=by
 obtain⟨e1,o,e2⟩:=zEd n xs h n 0 (by omega) (by omega)
 have e1':zAn n n xs 0=some o:=e1.trans e2
 have e2':qt n n xs 0=some o:=e2
 unfold Zr zHT
 rw[e1',e2']
 cases o<;>exact⟨_,rfl,rfl⟩
theorem zHc(n:Nat):zBW n=qJ n:=by
 funext m
 induction m with
 |zero=>rfl
 |succ m ih=>funext x i;simp only[zBW,qJ,ih,zMr]
theorem zDb(n:Nat)(x:zA)(h:x.Ps.length≤1048580):∀(m k:Nat),k≤x.Ps.length→x.Ps.length<m+k→Tot (qJ n m x k)
 |0,k,h1,h2=>by omega
 |m+1,k,h1,h2=>by
  rw[qJ]
  refine Tot.step (fun hk=>?_) .of
  have ih:=zDb n x h m (k+1) (by omega) (by omega)
  rw[vQ k]
  exact Tot.bind (zQW hk) fun _ _=>Tot.bind (zHQ _ _) fun _ _=>Tot.bif (fun _=>.of) fun _=>ih
theorem Z8(n:Nat)(x:zA)(wx:x.wf)(h:x.sz≤1048580)(hn:x.sz<n):∃b,zg n x=some b∧J8 n x=some b:=by
 have hs:x.Name.size+x.Ps.length+x.F.length+x.V.sz=x.sz:=rfl
 obtain⟨o,ho⟩:=zDb n x (by omega) n 0 (by omega) (by omega)
 have ho':qJ n n x 0=some o:=ho
 obtain⟨f,hf1,hf2⟩:=zJh n x.F (by omega) (by omega)
 obtain⟨g,v,hv⟩:=zIm n x.V ⟨wx.2.2.2.2.1,wx.2.2.2.2.2.1,trivial⟩ (x.Ps.length:Int) (by omega) (by omega)
 unfold zg J8
 rw[zHc,ho',bQ,bQ]
 cases o with
 |inr r=>exact⟨_,rfl,rfl⟩
 | inl u =>
  simp only[YE,zFq,qe,zAr,JQ,zV,hf1,hf2,g,hv,bQ]
  have hname:decide ((x.Name.size:Int)>10)= !decide ((x.Name.size:Int)≤10):=by
   by_cases h:(x.Name.size:Int)≤10
   ·rw[tQ h,dQ (by omega)];rfl
   ·rw[dQ h,tQ (by omega)];rfl
  rw[hname]
  generalize decide ((x.Name.size:Int)≤10)=b1
  generalize (decide (1≤x.Id)&&decide (x.Id≤99))=b2
  generalize (decide (1≤(x.Ps.length:Int))&&decide ((x.Ps.length:Int)≤6))=b3
  generalize (decide (0≤x.Tk)&&decide (x.Tk≤1000000))=b4
  generalize (decide (0≤x.Pa)&&decide (x.Pa≤1000000))=b5
  generalize (decide (0≤x.Wo)&&decide (x.Wo≤1000000))=b6
  generalize (decide (0≤x.Dr)&&decide (x.Dr≤1000000))=b7
  generalize (decide (0≤x.Ve)&&decide (x.Ve≤1000000))=b8
  clear hf1 hf2 g hv hname
  revert f v b1 b2 b3 b4 b5 b6 b7 b8
  decide+kernel
def Net.sz(x:Net):Nat:=(x.Bs.length+Ju zA.sz x.Bs)+x.Ls.length+x.Said.length
theorem zGg(n:Nat)(x:Net)(i j:Int)(wx:x.wf)(h:x.Bs.length≤1048580):∃p b,Zz n x i j=some (p,b)∧Y5 n x i j=some (b&&p.Up):=by
 have hw:wI ((x.Bs.length:Int)-1)=(x.Bs.length:Int)-1:=wQ
 unfold Zz Y5
 simp only[qe,zV,hw,bQ]
 by_cases hi:0≤i∧i≤(x.Bs.length:Int)-1
 ·obtain⟨v,hv,hm⟩:=zG8 (xs:=x.Bs) hi.1 (by omega)
  have hl:=(wx.1.2 v hm).2.2.1.1
  have hmx:maxLen=9223372036854775807:=by decide
  have hw2:wI ((v.Ps.length:Int)-1)=(v.Ps.length:Int)-1:=wQ
  simp only[tQ hi.1,tQ hi.2,Bool.and_self,nQ,fQ,cQ,hv,bQ,hw2]
  by_cases hj:0≤j∧j≤(v.Ps.length:Int)-1
  ·obtain⟨p,hp,_⟩:=zG8 (xs:=v.Ps) hj.1 (by omega)
   simp only[tQ hj.1,tQ hj.2,Bool.and_self,nQ,fQ,cQ,hp,bQ]
   exact⟨p,true,rfl,by simp⟩
  ·have hj':(decide (0≤j)&&decide (j≤(v.Ps.length:Int)-1))=false:=by
    simp only[Bool.and_eq_false_iff,decide_eq_false_iff_not];omega
   simp only[hj',Bool.not_false,cQ,fQ]
   exact⟨_,false,rfl,rfl⟩
 ·have hi':(decide (0≤i)&&decide (i≤(x.Bs.length:Int)-1))=false:=by
   simp only[Bool.and_eq_false_iff,decide_eq_false_iff_not];omega
  simp only[hi',Bool.not_false,cQ,fQ]
  exact⟨_,false,rfl,rfl⟩
theorem JU(n:Nat)(x:Net)(i:Int)(wx:x.wf)(h:x.sz≤1048580):∃b,qV n x i=some b∧qD n x i=some b:=by
 unfold Net.sz at h
 have hw:wI ((x.Ls.length:Int)-1)=(x.Ls.length:Int)-1:=wQ
 unfold qV qD
 simp only[qe,zV,hw,bQ]
 by_cases hi:0≤i∧i≤(x.Ls.length:Int)-1
 ·obtain⟨v,hv,hm⟩:=zG8 (xs:=x.Ls) hi.1 (by omega)
  obtain⟨p,b,h1,h2⟩:=zGg n x v.A v.P wx (by omega)
  obtain⟨p',b',h1',h2'⟩:=zGg n x v.B v.Q wx (by omega)
  simp only[tQ hi.1,tQ hi.2,Bool.and_self,nQ,fQ,hv,bQ,h1,h2,h1',h2']
  cases b<;>cases b'<;>cases p.Up<;>cases p'.Up<;>exact⟨_,rfl,rfl⟩
 ·have hi':(decide (0≤i)&&decide (i≤(x.Ls.length:Int)-1))=false:=by
   simp only[Bool.and_eq_false_iff,decide_eq_false_iff_not];omega
  simp only[hi',Bool.not_false,cQ]
  exact⟨_,rfl,rfl⟩
def Src.ok(c:Src):Prop:=0≤c.i∧c.b.length≤1099511627776
theorem zSD(z:Int):∃v:Int,(wI (bO z&&&bO 255).toNat)=v∧0≤v∧v≤255:=by
 have h:(BitVec.ofInt 64 z&&&BitVec.ofInt 64 255).toNat≤255:=by
  rw[BitVec.toNat_and]
  exact Nat.le_trans Nat.and_le_right (by decide)
 refine⟨((BitVec.ofInt 64 z&&&BitVec.ofInt 64 255).toNat:Int),?_,by omega,by omega⟩
 exact wrap64 (z:=((BitVec.ofInt 64 z&&&BitVec.ofInt 64 255).toNat:Int)) (by omega) (by omega)
theorem zCG(n:Nat)(c:Src)(h:c.ok):∃v c',Jh n c=some (v,c')∧0≤v∧v≤255∧c'.ok:=by
 unfold Jh
 rw[show decide ((0:Int)≤33)=true from rfl,show decide ((0:Int)≤47)=true from rfl]
 simp only[cQ]
 by_cases hi:c.i<(c.b.length:Int)
 ·obtain⟨v,hv,_⟩:=zG8 (xs:=c.b) h.1 hi
  rw[tQ hi,hv,wrap64 (z:=c.i+1) (by have:=h.1;omega) (by have:=h.2;omega)]
  obtain⟨w,e,e1,e2⟩:=zSD (wI ((wI (bO (wI (bO (Int.fdiv (wI ((wI (c.h*6364136223846793005))+1442695040888963407)) (2^min ((33:Int)).toNat (IntKind.bits .i64))) ^^^ bO (Int.fdiv (wI ((wI (c.h*6364136223846793005))+1442695040888963407)) (2^min ((47:Int)).toNat (IntKind.bits .i64)))).toNat)&&&bO 255).toNat)+(wI v)))
  simp only[cQ,bQ]
  exact⟨_,_,rfl,by rw[e];exact e1,by rw[e];exact e2,by have:=h.1;show 0≤c.i+1;omega,h.2⟩
 ·rw[dQ hi]
  obtain⟨w,e,e1,e2⟩:=zSD (wI (bO (Int.fdiv (wI ((wI (c.h*6364136223846793005))+1442695040888963407)) (2^min ((33:Int)).toNat (IntKind.bits .i64))) ^^^ bO (Int.fdiv (wI ((wI (c.h*6364136223846793005))+1442695040888963407)) (2^min ((47:Int)).toNat (IntKind.bits .i64)))).toNat)
  simp only[fQ]
  exact⟨_,_,rfl,by rw[e];exact e1,by rw[e];exact e2,h.1,h.2⟩
theorem zQi{v k:Int}(h0:0≤v)(hk:0<k):0≤Int.tmod v k∧Int.tmod v k<k:=by
 rw[Int.tmod_eq_emod_of_nonneg h0]
 exact⟨Int.emod_nonneg _ (by omega),Int.emod_lt_of_pos _ hk⟩
theorem zO(n:Nat)(c:Src)(k:Int)(h:c.ok):∃v c',zP n c k=some (v,c')∧0≤v∧(0<k→v<k)∧c'.ok:=by
 unfold zP
 by_cases h1:k≤0
 ·rw[tQ h1]
  exact⟨0,c,rfl,by omega,fun h=>by omega,h⟩
 ·rw[dQ h1]
  have hne:decide ((k:Int)≠0)=true:=tQ (by omega)
  by_cases h2:k≤256
  ·rw[tQ h2]
   obtain⟨v,c',e,e1,e2,e3⟩:=zCG n c h
   simp only[cQ,fQ,e,bQ,hne]
   obtain⟨t1,t2⟩:=zQi e1 (show 0<k by omega)
   exact⟨_,_,rfl,t1,fun _=>t2,e3⟩
  ·rw[dQ h2]
   obtain⟨v1,c1,e,e1,e2,e3⟩:=zCG n c h
   obtain⟨v2,c2,f,f1,f2,f3⟩:=zCG n c1 e3
   obtain⟨v3,c3,g,g1,g2,g3⟩:=zCG n c2 f3
   simp only[fQ,e,f,g,bQ,hne,cQ]
   simp (disch:=omega) only[wrap64]
   obtain⟨t1,t2⟩:=zQi (show 0≤v1*65536+v2*256+v3 by omega) (show 0<k by omega)
   exact⟨_,_,rfl,t1,fun _=>t2,g3⟩
theorem Yi(n:Nat)(c:Src)(k:Int)(h:c.ok):∃v c',Z6 n c k=some (v,c')∧c'.ok:=by
 obtain⟨v,c',e,_,_,e3⟩:=zO n c k h
 unfold Z6
 rw[e]
 exact⟨_,_,rfl,e3⟩
theorem zo(n:Nat)(c:Src)(xs:List Int)(h:c.ok)(hx:0<xs.length):∃v c',zp n c xs=some (v,c')∧v∈xs∧c'.ok:=by
 obtain⟨v,c',e,e1,e2,e3⟩:=zO n c (xs.length:Int) h
 obtain⟨u,hu,hm⟩:=zG8 (xs:=xs) e1 (e2 (by omega))
 unfold zp
 simp only[e,hu,bQ]
 exact⟨_,_,rfl,hm,e3⟩
theorem zFN(n:Nat)(x0:List Int)(h:x0.length≤1048580):∀(m k:Nat) (y:Int),k≤x0.length→x0.length<m+k→∃v,Yx n m x0 k y=some (.inl v)
 |0,k,y,h1,h2=>by omega
 | m + 1,k,y,h1,h2 => by
  rw[Yx]
  by_cases hk:k<x0.length
  ·rw[qU hk,zK hk,zHm (by omega)]
   by_cases h4:(k:Int)<4000
   ·rw[tQ h4]
    simp only[cQ,bQ]
    exact zFN n x0 h m (k+1) _ (by omega) (by omega)
   ·rw[dQ h4]
    exact⟨_,rfl⟩
  ·have he:k=x0.length:=by omega
   rw[he,z6]
   exact⟨_,rfl⟩
theorem zEv(n:Nat)(x0:List Int)(h:x0.length≤1048580)(hn:x0.length<n):∃c,Jj n x0=some c∧c.ok:=by
 obtain⟨v,e⟩:=zFN n x0 h n 0 (wI (762762+(x0.length:Int))) (by omega) (by omega)
 unfold Jj
 rw[show Yx n n x0 0 (wI (762762+(x0.length:Int)))= _ from e]
 exact⟨_,rfl,by show(0:Int)≤0;omega,by show x0.length≤_;omega⟩
theorem zRv:∀k<6,∀a<64,wI (bO (a:Nat) ||| bO (wI (1*2^min ((k:Nat):Int).toNat (IntKind.bits .i64)))).toNat=((a ||| 2^k:Nat):Int):=by decide+kernel
theorem zEj(n:Nat)(x0:zm)(x1:Int)(h:x0.Rows.length≤1048580):∀(m k:Nat),k≤x0.Rows.length→x0.Rows.length<m+k→Tot (ZV n m x0 x1 k)
 |0,k,h1,h2=>by omega
 |m+1,k,h1,h2=>by
  rw[ZV]
  refine Tot.step (fun hk=>?_) .of
  have ih:=zEj n x0 x1 h m (k+1) (by omega) (by omega)
  simp only[zK hk,bQ,zV,vQ k]
  refine Tot.bif (fun _=>.of) fun _=>Tot.bif (fun _=>.of) fun _=>Tot.bif (fun _=>.of) fun _=>Tot.bif (fun _=>.of) fun _=>Tot.bif (fun hp=>?_) fun _=>ih
  have hp:=of_decide_eq_true hp
  obtain⟨v,hv,_⟩:=zG8 (xs:=x0.Rows) (i:=(k:Int)-1) (by omega) (by omega)
  rw[wQ,hv,bQ]
  exact Tot.bif (fun _=>.of) fun _=>ih
theorem zEi(n:Nat)(x0:zm)(h:x0.Rows.length≤1048580)(hn:x0.Rows.length<n)(hq:x0.Pv.length≤1048580):∀(m k:Nat),k≤x0.Pv.length→x0.Pv.length<m+k→Tot (Zi n m x0 k)
 |0,k,h1,h2=>by omega
 |m+1,k,h1,h2=>by
  rw[Zi]
  refine Tot.step (fun hk=>?_) .of
  have ih:=zEi n x0 h hn hq m (k+1) (by omega) (by omega)
  obtain⟨r,hr,_⟩:=zEt n x0 x0.Pv[k] h hn
  simp only[zK hk,bQ,hr,vQ k]
  exact Tot.bif (fun _=>.of) fun _=>ih
theorem zJp(n:Nat)(x0:zm)(p:Nat)(hp:p≤1000000)(h:x0.sz≤1048580)(hn:x0.sz<n):Tot (qN n x0 p):=by
 have hs:x0.Rows.length+x0.Pv.length=x0.sz:=rfl
 unfold qN
 simp only[zV,bQ]
 have hu:decide ((0:Int)≤IntKind.wrap .u64 (p:Int))=true:=by rw[show IntKind.wrap .u64 (p:Int)=p from by show((p:Int)%18446744073709551616)=p;omega];exact tQ (by omega)
 refine Tot.bif (fun _=>.of) fun _=>Tot.bif (fun _=>.of) fun _=>Tot.bif (fun _=>.of) fun _=>?_
 rw[hu,cQ]
 refine Tot.bind (zEj n x0 p (by omega) n 0 (by omega) (by omega)) fun o _=>?_
 cases o with
 |inr b=>exact Tot.of
 |inl u=>
  show Tot (JD n x0)
  unfold JD
  refine Tot.bind (zEi n x0 (by omega) (by omega) (by omega) n 0 (by omega) (by omega)) fun o _=>?_
  cases o<;>exact Tot.of
theorem zFz(n:Nat)(x:zm)(p:Int)(hok:qN n x p=some true):x.Rows.length≤6∧(x.Pv.length:Int)=p:=by
 unfold qN at hok
 simp only[zV,bQ]at hok
 revert hok
 cases(decide (1≤p)&&decide (p≤6))with
 |false=>intro h;cases h
 | true =>
  simp only[nQ,fQ]
  by_cases hp:(x.Pv.length:Int)=p
  ·have:((x.Pv.length:Int) != p)=false:=by simp[hp]
   rw[this,fQ]
   by_cases hr:(x.Rows.length:Int)>6
   ·rw[tQ hr];intro h;cases h
   ·exact fun _=>⟨by omega,hp⟩
  ·have:((x.Pv.length:Int) != p)=true:=by simp[hp]
   rw[this];intro h;cases h
def VtG(n p:Nat)(x:zm):Prop:=x.wf∧x.Pv.length=p∧x.Rows.length≤6∧qN n x p=some true∧∀r∈x.Rows,0≤r.Bare∧r.Bare≤63
theorem VtG.sz{n p:Nat}{x:zm}(h:VtG n p x):x.sz≤6+p:=by
 have hs:x.Rows.length+x.Pv.length=x.sz:=rfl
 have:=h.2.1;have:=h.2.2.1;omega
theorem zFk(n p:Nat)(hp:p≤1000)(x y:zm)(hx:VtG n p x)(wy:y.wf)(hy:y.Pv.length=p)(hl:y.Rows.length≤1000)(hb:∀r∈y.Rows,0≤r.Bare∧r.Bare≤63)(hn:1048577<n):∃r b,zCT n y x=some (r,b)∧VtG n p r:=by
 have hs:y.Rows.length+y.Pv.length=y.sz:=rfl
 have hxs:=hx.sz
 obtain⟨b,e⟩:=zJp n y p (by omega) (by omega) (by omega)
 unfold zCT
 rw[hx.2.1,e,bQ,zAi n x (by omega)]
 cases b
 ·exact⟨x,false,rfl,hx⟩
 ·exact⟨y,true,rfl,wy,hy,(zFz n y p e).1,e,hb⟩
theorem zJm(n p:Nat)(hp:p≤1000)(x:zm)(hx:VtG n p x)(i id:Int)(wi:qx id)(hn:1048577<n):∃r b,zBx n x i id=some (r,b)∧VtG n p r:=by
 have hxs:=hx.sz
 have hpl:=hx.2.1
 have hw:wI ((p:Int)-1)=(p:Int)-1:=wQ
 unfold zBx
 simp only[hpl,hx.2.2.2.1,bQ,nQ,fQ,zV,hw,zAi n x (by omega)]
 by_cases hi:0≤i∧i≤(p:Int)-1
 ·obtain⟨v,hv,_⟩:=zG8 (xs:=x.Pv) hi.1 (by omega)
  obtain⟨r,b,e,g⟩:=zFk n p hp x ⟨x.Rows,x.Pv.set i.toNat id⟩ hx ⟨hx.1.1,zDa hx.1.2.1 wi,trivial⟩ (by simp[hpl]) (by have:=hx.2.2.1;show x.Rows.length≤1000;omega) hx.2.2.2.2 hn
  rw[tQ hi.1,tQ hi.2]
  simp only[Bool.and_self,nQ,fQ,hv,bQ,e]
  exact⟨r,b,rfl,g⟩
 ·have hp':(decide (0≤i)&&decide (i≤(p:Int)-1))=false:=by
   simp only[Bool.and_eq_false_iff,decide_eq_false_iff_not];omega
  rw[hp']
  exact⟨x,false,rfl,hx⟩
theorem zJg(n p:Nat)(hp:p≤1000)(x:zm)(hx:VtG n p x)(id:Int)(hn:1048577<n):∃r b,zAu n x id=some (r,b)∧VtG n p r:=by
 have hxs:=hx.sz
 have hpl:=hx.2.1
 have h6:=hx.2.2.1
 obtain⟨r,hr,hk⟩:=zEt n x id (by omega) (by omega)
 rcases hk with⟨rfl,_⟩|⟨v,h0,hv,_⟩
 ·refine⟨x,false,?_,hx⟩
  simp only[zAu,hr,hpl,hx.2.2.2.1,bQ,zAi n x (by omega)]
  rfl
 ·obtain⟨g1,g2⟩:=zU hv
  have hlt:r.toNat<x.Rows.length:=(List.getElem?_eq_some_iff.1 g2).1
  obtain⟨k,rfl⟩:∃k:Nat,r=k:=⟨r.toNat,by omega⟩
  simp only[Int.toNat_natCast]at hlt
  have hw:wI ((k:Int)+1)=((k+1:Nat):Int):=zHm (by omega)
  have hlist:(([]:List zX)++((x.Rows.drop ((0:Int)).toNat).take (((k:Int)).toNat-((0:Int)).toNat)))++((x.Rows.drop ((((k+1:Nat):Int))).toNat).take ((((x.Rows.length:Int):Int)).toNat-((((k+1:Nat):Int))).toNat))=x.Rows.take k++x.Rows.drop (k+1):=by
   simp only[Int.toNat_natCast,List.nil_append,show((0:Int)).toNat=0 from rfl,List.drop_zero,Nat.sub_zero]
   congr 1
   exact List.take_of_length_le (by simp)
  have hmem:∀y∈x.Rows.take k++x.Rows.drop (k+1),y∈x.Rows:=fun y hy=>by
   rcases List.mem_append.1 hy with h|h
   ·exact List.mem_of_mem_take h
   ·exact List.mem_of_mem_drop h
  obtain⟨y,b,e,g⟩:=zFk n p hp x ⟨x.Rows.take k++x.Rows.drop (k+1),x.Pv⟩ hx ⟨zL7 hx.1.1 hmem (by simp;omega),hx.1.2⟩ hpl (by show(x.Rows.take k++x.Rows.drop (k+1)).length≤1000;simp;omega) (fun r hr=>hx.2.2.2.2 r (hmem r hr)) hn
  have hg1:(decide ((0:Int)≤0)&&(decide ((0:Int)≤(k:Int))&&decide ((k:Int)≤(x.Rows.length:Int))))=true:=by
   rw[tQ (by omega:(0:Int)≤(k:Int)),tQ (by omega:(k:Int)≤(x.Rows.length:Int))];rfl
  have hg2:(decide ((0:Int)≤((k+1:Nat):Int))&&(decide ((((k+1:Nat):Int):Int)≤(x.Rows.length:Int))&&decide (((x.Rows.length:Int):Int)≤(x.Rows.length:Int))))=true:=by
   rw[tQ (by omega:(0:Int)≤((k+1:Nat):Int)),tQ (by omega:((k+1:Nat):Int)≤(x.Rows.length:Int)),tQ (Int.le_refl _)];rfl
  have hg3:decide (([]:List zX).length+((x.Rows.drop ((0:Int)).toNat).take (((k:Int)).toNat-((0:Int)).toNat)).length≤268435456)=true:=tQ (by simp;omega)
  have hg4:decide ((([]:List zX)++((x.Rows.drop ((0:Int)).toNat).take (((k:Int)).toNat-((0:Int)).toNat))).length+((x.Rows.drop ((((k+1:Nat):Int))).toNat).take ((((x.Rows.length:Int):Int)).toNat-((((k+1:Nat):Int))).toNat)).length≤268435456)=true:=tQ (by simp;omega)
  have hn0:decide ((k:Int)<0)=false:=dQ (by omega)
  refine⟨y,b,?_,g⟩
  simp only[zAu,hr,hpl,hx.2.2.2.1,bQ,nQ,zAi n x (by omega),hn0,fQ,hw,hg1,hg2,hg3,hg4,cQ,hlist,e]
theorem zFS(n:Nat)(x0:zm)(r:zX)(h:x0.Rows.length≤1000):∀(m k:Nat) (d:Bool) (acc:List zX),k≤x0.Rows.length→x0.Rows.length<m+k→acc.length≤2*k→(∀v∈acc,v=r∨v∈x0.Rows)→∃d' acc',Za n m x0 r k d acc=some (.inl (d',acc'))∧acc'.length≤2*x0.Rows.length∧(∀v∈acc',v=r∨v∈x0.Rows)
 |0,k,d,acc,h1,h2,_,_=>by omega
 | m + 1,k,d,acc,h1,h2,h3,h4 => by
  rw[Za]
  by_cases hk:k<x0.Rows.length
  ·have ih:=fun d acc h3 h4=>zFS n x0 r h m (k+1) d acc (by omega) (by omega) h3 h4
   have hmem:x0.Rows[k]∈x0.Rows:=List.getElem_mem hk
   have hj:∀b1 b2 b3 (d:Bool) (acc:List zX),acc.length≤2*k+1→(∀v∈acc,v=r∨v∈x0.Rows)→∃d' acc',Y0 n (fun v=>Za n m x0 r v.1 v.2.1 v.2.2) x0 r k b1 b2 b3 d acc=some (.inl (d',acc'))∧acc'.length≤2*x0.Rows.length∧(∀v∈acc',v=r∨v∈x0.Rows):=fun b1 b2 b3 d acc hl ha=>by
    have hlen:decide (acc.length+ [x0.Rows[k]].length≤268435456)=true:=tQ (by rw[List.length_singleton];omega)
    simp only[Y0,zK hk,bQ,hlen,cQ,vQ k]
    cases(x0.Rows[k].Id != r.Id)
    ·exact ih d acc (by omega) ha
    ·refine ih d _ (by simp;omega) fun v hv=>?_
     rcases List.mem_append.1 hv with a|a
     ·exact ha v a
     ·rw[List.mem_singleton.1 a];exact .inr hmem
   have hlen:decide (acc.length+ [r].length≤268435456)=true:=tQ (by rw[List.length_singleton];omega)
   simp only[qU hk,cQ,zK hk,bQ,hlen]
   cases d
   ·simp only[Bool.not_false,cQ]
    cases(decide (x0.Rows[k].Id≥r.Id))
    ·simp only[fQ];exact hj _ _ _ _ _ (by omega) h4
    ·simp only[cQ]
     refine hj _ _ _ _ _ (by simp;omega) fun v hv=>?_
     rcases List.mem_append.1 hv with a|a
     ·exact h4 v a
     ·exact .inl (List.mem_singleton.1 a)
   ·simp only[nQ,fQ];exact hj _ _ _ _ _ (by omega) h4
  ·have he:k=x0.Rows.length:=by omega
   subst he
   rw[z6,fQ]
   exact⟨d,acc,rfl,h3,h4⟩
theorem zGx(n:Nat)(x:zm)(r:zX)(h:x.Rows.length≤1000)(hq:x.Pv.length≤1000)(hn:1000<n):∃y,zCZ n x r=some y∧y.Pv=x.Pv∧y.Rows.length≤2*x.Rows.length+1∧(∀v∈y.Rows,v=r∨v∈x.Rows):=by
 obtain⟨d,acc,e,h1,h2⟩:=zFS n x r h n 0 false [] (by omega) (by omega) (by simp) (by simp)
 have e:Za n n x r 0 false ([]:List zX)=some (.inl (d,acc)):=e
 unfold zCZ
 rw[tQ (by simp;omega),cQ,e,bQ]
 simp only[zB3,List.nil_append]
 have hlen:decide (acc.length+ [r].length≤268435456)=true:=tQ (by rw[List.length_singleton];omega)
 rw[hlen]
 cases d
 ·refine⟨_,rfl,rfl,by simp;omega,fun v hv=>?_⟩
  rcases List.mem_append.1 hv with a|a
  ·exact h2 v a
  ·exact .inl (List.mem_singleton.1 a)
 ·exact⟨_,rfl,rfl,by simp;omega,h2⟩
theorem zOI{xs ys:List zX}{r:zX}(hx:zAt zX.wf xs)(wr:r.wf)(hl:ys.length≤4000)(h:∀v∈ys,v=r∨v∈xs):zAt zX.wf ys:=⟨Nat.le_trans hl (by decide),fun v hv=>by
 rcases h v hv with a|a
 ·rw[a];exact wr
 ·exact hx.2 v a⟩
theorem zKq(n p:Nat)(hp:p≤1000)(x:zm)(hx:VtG n p x)(r:zX)(wr:r.wf)(hr:0≤r.Bare∧r.Bare≤63)(hn:1048577<n):∃y b,zC3 n x r=some (y,b)∧VtG n p y:=by
 have hxs:=hx.sz
 have hpl:=hx.2.1
 have h6:=hx.2.2.1
 obtain⟨z,e,e1,e2,e3⟩:=zGx n x r (by omega) (by omega) (by omega)
 have wz:z.wf:=⟨zOI hx.1.1 wr (by omega) e3,by rw[e1];exact hx.1.2.1,trivial⟩
 obtain⟨y,b,f,g⟩:=zFk n p hp x z hx wz (by rw[e1];exact hpl) (by omega) (fun v hv=>by
  rcases e3 v hv with a|a
  ·rw[a];exact hr
  ·exact hx.2.2.2.2 v a) hn
 refine⟨y,b,?_,g⟩
 simp only[zC3,hpl,hx.2.2.2.1,bQ,nQ,fQ,e,f]
theorem zk{z:Int}(h0: -1000000≤z)(h1:z≤1000000):qx z:=by
 show(Lit.int .i64 z).wf=true
 simp[Lit.wf,show wI z=z from wQ]
 exact⟨by show(-9223372036854775808:Int)≤z;omega,by omega⟩
theorem iQ{z:Int}(h0: -1000000≤z:=by omega)(h1:z≤1000000:=by omega):qx z:=zk h0 h1
theorem zQ3:∀a<64,∀b<64,wI (bO ((a:Nat):Int)&&&bO ((b:Nat):Int)).toNat=((a&&&b:Nat):Int):=by decide+kernel
theorem zJ8:∀p<7,IntKind.wrap .u64 ((p:Nat):Int)=p∧wI ((wI ((wI (1*2^min (((IntKind.wrap .u64 ((p:Nat):Int)):Int)).toNat (IntKind.bits .i64)))-1))+1)=((2^p:Nat):Int)∧(wI ((wI (1*2^min (((IntKind.wrap .u64 ((p:Nat):Int)):Int)).toNat (IntKind.bits .i64)))-1))=((2^p-1:Nat):Int)∧1≤2^p∧2^p≤64:=by decide+kernel
theorem zK2(n p:Nat)(hp:p<7)(c:Src)(h:c.ok):∃v c',zDB n c p=some (v,c')∧v.wf∧0≤v.Bare∧v.Bare≤63∧c'.ok:=by
 obtain⟨s1,s2,s3,s4,s5⟩:=zJ8 p hp
 obtain⟨v1,c1,e1,a1,b1,g1⟩:=zO n c ((2^p:Nat):Int) h
 obtain⟨v2,c2,e2,a2,g2⟩:=zo n c1 [1,2,3,2] g1 (by decide)
 obtain⟨v3,c3,e3,a3,b3,g3⟩:=zO n c2 ((2^p:Nat):Int) g2
 have b1:=b1 (by omega)
 have b3:=b3 (by omega)
 obtain⟨x,rfl⟩:∃x:Nat,v1=x:=⟨v1.toNat,by omega⟩
 obtain⟨y,rfl⟩:∃y:Nat,v3=y:=⟨v3.toNat,by omega⟩
 have hand:=zQ3 x (by omega) y (by omega)
 have hle:x&&&y≤x:=Nat.and_le_left
 have hu:decide ((0:Int)≤IntKind.wrap .u64 ((p:Nat):Int))=true:=tQ (by rw[s1];omega)
 unfold zDB
 simp only[s2,hu,cQ,e1,e2,e3,bQ,hand]
 have w1:qx v2:=by
  simp only[List.mem_cons,List.not_mem_nil,or_false]at a2
  refine zk ?_ ?_<;>rcases a2 with a|a|a|a<;>omega
 have w2:qx ((x:Nat):Int):=zk (by omega) (by omega)
 have w3:qx ((x&&&y:Nat):Int):=zk (by omega) (by omega)
 refine⟨_,_,rfl,⟨w1,w2,w3,trivial⟩,?_,?_,g3⟩
 ·show(0:Int)≤((x&&&y:Nat):Int);omega
 ·show((x&&&y:Nat):Int)≤63;omega
theorem zEh(n p:Nat)(hp:p≤1000):∀(m k:Nat) (acc:List Int),k≤p→p<m+k→acc=List.replicate k 1→Q3 n m p k acc=some (.inl (List.replicate p 1))
 |0,k,acc,h1,h2,h3=>by omega
 | m + 1,k,acc,h1,h2,h3 => by
  rw[Q3]
  by_cases hk:k<p
  ·have hlen:decide (acc.length+ [(1:Int)].length≤268435456)=true:=tQ (by rw[List.length_singleton,h3];simp;omega)
   simp only[qU hk,cQ,vQ k]
   refine Eq.trans (congrArg (fun b=>cond b _ none) hlen) ?_
   exact zEh n p hp m (k+1) (acc++[1]) (by omega) (by omega) (by rw[h3,←List.replicate_succ'])
  ·have he:k=p:=by omega
   subst he
   rw[z6,fQ,h3]
theorem zJo(n p:Nat)(h0:1≤p)(h1:p<7)(hn:1000<n):Yu n p=some ⟨[⟨1,((2^p-1:Nat):Int),((2^p-1:Nat):Int)⟩],List.replicate p 1⟩:=by
 obtain⟨s1,s2,s3,s4,s5⟩:=zJ8 p h1
 have e:=zEh n p (by omega) n 0 [] (by omega) (by omega) rfl
 have e:Q3 n n p 0 ([]:List Int)=some (.inl (List.replicate p 1)):=e
 unfold Yu
 have hu:decide ((0:Int)≤IntKind.wrap .u64 ((p:Nat):Int))=true:=tQ (by rw[s1];omega)
 simp only[zV,bQ,tQ (show(1:Int)≤(p:Int) by omega),tQ (show(p:Int)≤6 by omega),Bool.and_self,nQ,fQ,hu,cQ,e,zAe,s3]
theorem zTk:∀p<7,1≤p→qN 1048800 ⟨[⟨1,((2^p-1:Nat):Int),((2^p-1:Nat):Int)⟩],List.replicate p 1⟩ ((p:Nat):Int)=some true:=by decide+kernel
theorem zTj(p:Nat)(h0:1≤p)(h1:p<7):∃v,Yu 1048800 p=some v∧VtG 1048800 p v:=by
 obtain⟨s1,s2,s3,s4,s5⟩:=zJ8 p h1
 have w:qx ((2^p-1:Nat):Int):=zk (by omega) (by omega)
 refine⟨_,zJo 1048800 p h0 h1 (by omega),⟨⟨by show 1≤maxLen;decide,fun v hv=>?_⟩,⟨by rw[List.length_replicate];exact Nat.le_trans (Nat.le_of_lt h1) (by decide),fun v hv=>?_⟩,trivial⟩,List.length_replicate,by show 1≤6;decide,zTk p h1 h0,fun v hv=>?_⟩
 ·rw[List.mem_singleton.1 hv];have w1:qx 1:=zk (by decide) (by decide)
  exact⟨w1,w,w,trivial⟩
 ·rw[(List.mem_replicate.1 hv).2];exact zk (by decide) (by decide)
 ·rw[List.mem_singleton.1 hv]
  have h:(0:Int)≤((2^p-1:Nat):Int)∧((2^p-1:Nat):Int)≤63:=by omega
  exact h
theorem zFR(p:Nat)(h0:1≤p)(h7:p<7):∀(m k:Nat) (c:Src) (v:zm),k<m→k≤1000→c.ok→VtG 1048800 p v→∃(c':Src) (v':zm),Qx 1048800 m p k c.b c.i c.h v.Rows v.Pv=some (.inl (c'.b,c'.i,c'.h,v'.Rows,v'.Pv))∧c'.ok∧VtG 1048800 p v'
 |0,k,c,v,h1,h2,h3,h4=>by omega
 | m + 1,k,c,v,h1,h2,h3,h4 => by
  rw[Qx]
  by_cases hk:0<k
  ·obtain⟨j,rfl⟩:∃j,k=j+1:=⟨k-1,by omega⟩
   have hw:wI (((j+1:Nat):Int)-1)=(j:Nat):=by rw[wQ];omega
   have ih:=fun c v h3 h4=>zFR p h0 h7 m j c v (by omega) (by omega) h3 h4
   obtain⟨v1,c1,e1,a1,b1,g1⟩:=zO 1048800 c 4 h3
   obtain⟨v2,c2,e2,a2,b2,g2⟩:=zO 1048800 c1 (p:Int) g1
   obtain⟨v3,c3,e3,a3,b3,g3⟩:=zO 1048800 c2 3 g2
   obtain⟨v4,c4,e4,a4,b4,g4⟩:=zO 1048800 c1 2 g1
   obtain⟨v5,c5,e5,w5,p5,q5,g5⟩:=zK2 1048800 p h7 c1 g1
   have b3:=b3 (by decide)
   have b4:=b4 (by decide)
   obtain⟨y2,d2,f2,k2⟩:=zJm 1048800 p (by omega) v h4 v2 (1+v3) (zk (by omega) (by omega)) (by omega)
   obtain⟨y4,d4,f4,k4⟩:=zJg 1048800 p (by omega) v h4 (2+v4) (by omega)
   obtain⟨y5,d5,f5,k5⟩:=zKq 1048800 p (by omega) v h4 v5 w5 ⟨p5,q5⟩ (by omega)
   have hpos:decide (((j+1:Nat):Int)>0)=true:=tQ (by omega)
   simp only[hpos,cQ,e1,bQ,e2,e3,e4,e5,hw,wrap64 (show-9223372036854775808≤1+v3 by omega) (by omega),wrap64 (show-9223372036854775808≤2+v4 by omega) (by omega),f2,f4,f5]
   cases(v1==0)
   ·cases(v1==1)
    ·exact ih c5 y5 g5 k5
    ·exact ih c4 y4 g4 k4
   ·exact ih c3 y2 g3 k2
  ·have:k=0:=by omega
   subst this
   exact⟨c,v,rfl,h3,h4⟩
theorem zGw(p:Nat)(h0:1≤p)(h7:p<7)(c:Src)(h:c.ok):∃v c',zBm 1048800 c p=some (v,c')∧VtG 1048800 p v∧c'.ok:=by
 obtain⟨v0,e0,g0⟩:=zTj p h0 h7
 obtain⟨v1,c1,e1,a1,b1,g1⟩:=zO 1048800 c 6 h
 have b1:=b1 (by decide)
 obtain⟨k,rfl⟩:∃k:Nat,v1=k:=⟨v1.toNat,by omega⟩
 obtain⟨c',v',e,g,g'⟩:=zFR p h0 h7 1048800 k c1 v0 (by omega) (by omega) g1 g0
 unfold zBm
 rw[e0,bQ,e1,bQ,e]
 exact⟨v',c',rfl,g',g⟩
def VtB(x:zm):Prop:=x.wf∧1≤x.Pv.length∧x.Pv.length≤6∧x.Rows.length≤1000∧∀r∈x.Rows,0≤r.Bare∧r.Bare≤63
theorem zF8:∀(m k:Nat) (v:zm),k≤6→6<m+k→VtB v→v.Rows.length*2^(6-k)+2^(6-k)≤1000→∃(v':zm),Yz 1048800 m k v.Rows v.Pv=some (.inl (v'.Rows,v'.Pv))∧VtB v'
 |0,k,v,h1,h2,h3,h4=>by omega
 | m + 1,k,v,h1,h2,h3,h4 => by
  rw[Yz]
  by_cases hk:k<6
  ·have hp:2^(6-k)=2*2^(6-(k+1)):=by rw[←Nat.pow_succ'];congr 1;omega
   have hpos:1≤2^(6-(k+1)):=Nat.pos_of_ne_zero (by simp)
   obtain⟨y,e,e1,e2,e3⟩:=zGx 1048800 (⟨v.Rows,v.Pv⟩:zm) (⟨wI (10+(k:Int)),0,0⟩:zX) h3.2.2.2.1 (Nat.le_trans h3.2.2.1 (by decide)) (by omega)
   have e2:y.Rows.length≤2*v.Rows.length+1:=e2
   have e1:y.Pv=v.Pv:=e1
   have hle:y.Rows.length*2^(6-(k+1))+2^(6-(k+1))≤1000:=by
    refine Nat.le_trans ?_ h4
    rw[hp]
    have:=Nat.mul_le_mul_right (2^(6-(k+1))) e2
    have h5:(2*v.Rows.length+1)*2^(6-(k+1))=v.Rows.length*(2*2^(6-(k+1)))+2^(6-(k+1)):=by
     rw[Nat.add_mul,Nat.one_mul,Nat.mul_comm 2 v.Rows.length,Nat.mul_assoc]
    omega
   have hl:y.Rows.length≤1000:=by
    have:=Nat.mul_le_mul_left y.Rows.length hpos
    omega
   have wr:zX.wf (⟨wI (10+(k:Int)),0,0⟩:zX):=by
    rw[wQ]
    have w0:qx 0:=zk (by decide) (by decide)
    exact⟨zk (by show(-1000000:Int)≤10+(k:Int);omega) (by show 10+(k:Int)≤1000000;omega),w0,w0,trivial⟩
   have gy:VtB y:=⟨⟨zOI h3.1.1 wr (by omega) e3,by rw[e1];exact h3.1.2.1,trivial⟩,by rw[e1];exact h3.2.1,by rw[e1];exact h3.2.2.1,hl,fun r hr=>by
    rcases e3 r hr with a|a
    ·rw[a];exact(show(0:Int)≤0∧(0:Int)≤63 by decide)
    ·exact h3.2.2.2.2 r a⟩
   simp only[tQ (show(k:Int)<6 by omega),cQ,e,bQ,vQ k]
   exact zF8 m (k+1) y (by omega) (by omega) gy hle
  ·have:k=6:=by omega
   subst this
   exact⟨v,rfl,h3⟩
theorem zLY(c:Src)(h:c.ok):∃v p c',zD3 1048800 c=some (v,p,c')∧VtB v∧qx p∧c'.ok:=by
 obtain⟨v1,c1,e1,a1,b1,g1⟩:=zO 1048800 c 4 h
 have b1:=b1 (by decide)
 obtain⟨k,rfl⟩:∃k:Nat,v1=k:=⟨v1.toNat,by omega⟩
 have hw:wI (1+(k:Int))=((k+1:Nat):Int):=by rw[wQ];omega
 obtain⟨v,c2,e2,gv,g2⟩:=zGw (k+1) (by omega) (by omega) c1 g1
 have hl:=gv.2.1
 have h6:=gv.2.2.1
 have bv:VtB v:=⟨gv.1,by omega,by omega,by omega,gv.2.2.2.2⟩
 have wk:qx ((k+1:Nat):Int):=zk (by omega) (by omega)
 obtain⟨v3,c3,e3,a3,b3,g3⟩:=zO 1048800 c2 12 g2
 obtain⟨v4,c4,e4,a4,g4⟩:=zo 1048800 c3 [0,1,9,100] g3 (by decide)
 obtain⟨v5,c5,e5,a5,g5⟩:=zo 1048800 c4 [(-1),0,1,64] g4 (by decide)
 obtain⟨v6,c6,e6,a6,b6,g6⟩:=zO 1048800 c5 3 g5
 have b6:=b6 (by decide)
 obtain⟨v7,c7,e7,a7,g7⟩:=zo 1048800 c3 [0,7] g3 (by decide)
 obtain⟨v8,c8,e8,a8,g8⟩:=zo 1048800 c3 [0,6,7] g3 (by decide)
 obtain⟨u,hu,_⟩:=zG8 (xs:=v.Pv) (i:=0) (by omega) (by omega)
 obtain⟨z,ez,bz⟩:=zF8 1048800 0 v (by omega) (by omega) bv (by show v.Rows.length*64+64≤1000;omega)
 have ez:Yz 1048800 1048800 0 v.Rows v.Pv=some (.inl (z.Rows,z.Pv)):=ez
 simp only[List.mem_cons,List.not_mem_nil,or_false]at a4 a5 a7 a8
 have w4:qx v4:=by refine zk ?_ ?_<;>rcases a4 with a|a|a|a<;>omega
 have w5:qx v5:=by refine zk ?_ ?_<;>rcases a5 with a|a|a|a<;>omega
 have w6:qx v6:=zk (by omega) (by omega)
 have w7:qx v7:=by refine zk ?_ ?_<;>rcases a7 with a|a<;>omega
 have w8:qx v8:=by refine zk ?_ ?_<;>rcases a8 with a|a|a<;>omega
 have hlen:decide (v.Rows.length+ [(⟨v4,v5,v6⟩:zX)].length≤268435456)=true:=tQ (by rw[List.length_singleton];omega)
 unfold zD3
 simp only[e1,bQ,hw,e2,e3,e4,e5,e6,e7,e8,hu,hlen,cQ,ez,zB2]
 cases(v3==0)
 ·cases(v3==1)
  ·cases(v3==2)
   ·cases(v3==3)
    ·exact⟨_,_,_,rfl,bv,wk,g3⟩
    ·exact⟨_,_,_,rfl,bz,wk,g3⟩
   ·exact⟨_,_,_,rfl,bv,w8,g8⟩
  ·exact⟨_,_,_,rfl,⟨⟨bv.1.1,zDa bv.1.2.1 w7,trivial⟩,by show 1≤(v.Pv.set ((0:Int)).toNat v7).length;rw[List.length_set];omega,by show(v.Pv.set ((0:Int)).toNat v7).length≤6;rw[List.length_set];omega,bv.2.2.2⟩,wk,g7⟩
 ·refine⟨_,_,_,rfl,⟨⟨zOI bv.1.1 (r:=⟨v4,v5,v6⟩) ⟨w4,w5,w6,trivial⟩ (by show(v.Rows++[_]).length≤4000;simp;omega) fun r hr=>?_,bv.1.2⟩,bv.2.1,bv.2.2.1,by show(v.Rows++[_]).length≤1000;simp;omega,fun r hr=>?_⟩,wk,g6⟩
  ·rcases List.mem_append.1 hr with a|a
   ·exact .inr a
   ·exact .inl (List.mem_singleton.1 a)
  ·rcases List.mem_append.1 hr with a|a
   ·exact bv.2.2.2.2 r a
   ·rw[List.mem_singleton.1 a];exact⟨a6,by show v6≤63;omega⟩
def zMn(a:Int)(i:Nat):Bool:=(wI (bO (Int.fdiv a (2^min ((i:Int)).toNat (IntKind.bits .i64)))&&&bO 1).toNat==1)
theorem zCf(n:Nat)(a:Int)(i:Nat)(h:i≤62):YO n a i=some (zMn a i):=by
 unfold YO
 simp only[qe,zV,bQ,tQ (show(0:Int)≤(i:Int) by omega),tQ (show(i:Int)≤62 by omega),Bool.and_self,cQ]
 rfl
theorem zCH(n:Nat)(a:Int)(i:Nat)(h:i≤7):Jl n a i=some (zMn a i):=by
 unfold Jl
 have hu:IntKind.wrap .u64 (i:Int)=i:=zSY (by omega)
 simp only[zV,bQ,tQ (show(0:Int)≤(i:Int) by omega),tQ (show(i:Int)≤7 by omega),Bool.and_self,cQ,hu]
 rfl
theorem zGv(n:Nat)(a i:Int)(h:i<0∨7<i):Jl n a i=some false:=by
 unfold Jl
 have:(decide ((0:Int)≤i)&&decide (i≤7))=false:=by
  simp only[Bool.and_eq_false_iff,decide_eq_false_iff_not];omega
 simp only[zV,bQ,this,fQ]
theorem zBn(n:Nat)(xs:List Int)(h:xs.length≤268435456)(hn:xs.length<n):qM n xs xs=some true:=by
 unfold qM
 have:=zQR (L:=YD n) (f:=fun a b=>some (a==b)) (fun m xs ys i=>rfl) xs (by omega) (fun v _=>by simp) n 0 (by omega) (by omega)
 simp only[bne_self_eq_false,fQ]
 rw[show(YD n n xs xs 0)= _ from this]
 rfl
theorem zF2(n:Nat)(x:Net)(i j:Int)(h:Y5 n x i j=some true):∃v p,idx x.Bs i=some v∧idx v.Ps j=some p∧p.Up=true∧i≤(wI ((x.Bs.length:Int)-1))∧j≤(wI ((v.Ps.length:Int)-1))∧0≤i∧0≤j:=by
 unfold Y5 at h
 simp only[zV,bQ]at h
 cases hc:(decide (0≤i)&&decide (i≤wI ((x.Bs.length:Int)-1)))with
 |false=>rw[hc]at h;cases h
 | true =>
  simp only[hc,cQ]at h
  obtain⟨v,hv,h⟩:=bind_some h
  cases hd:(decide (0≤j)&&decide (j≤wI ((v.Ps.length:Int)-1)))with
  |false=>rw[hd]at h;cases h
  |true=>
   simp only[hd,cQ,hv,bQ]at h
   obtain⟨p,hp,h⟩:=bind_some h
   simp only[Bool.and_eq_true,decide_eq_true_eq]at hc hd
   exact⟨v,p,hv,hp,Option.some.inj h,hc.2,hd.2,hc.1,hd.1⟩
theorem zA5(n:Nat)(x:Net)(k:Int)(h:qV n x k=some true):∃l a b p q,idx x.Ls k=some l∧idx x.Bs l.A=some a∧idx a.Ps l.P=some p∧p.Up=true∧idx x.Bs l.B=some b∧idx b.Ps l.Q=some q∧q.Up=true:=by
 unfold qV at h
 simp only[zV,bQ]at h
 cases hc:(decide (0≤k)&&decide (k≤wI ((x.Ls.length:Int)-1)))with
 |false=>rw[hc]at h;cases h
 | true =>
  simp only[hc,nQ,fQ]at h
  obtain⟨l,hl,h⟩:=bind_some h
  obtain⟨u,hu,h⟩:=bind_some h
  cases u with
  |false=>cases h
  |true=>
   simp only[cQ]at h
   obtain⟨u',hu',h⟩:=bind_some h
   have:u'=true:=Option.some.inj h
   subst this
   obtain⟨a,p,a1,a2,a3,_⟩:=zF2 n x _ _ hu
   obtain⟨b,q,b1,b2,b3,_⟩:=zF2 n x _ _ hu'
   exact⟨l,a,b,p,q,hl,a1,a2,a3,b1,b2,b3⟩
theorem zBh{α:Type}{xs:List α}{i:Int}{v:α}(h:idx xs i=some v):0≤i∧i<xs.length:=by
 obtain⟨g1,g2⟩:=zU h
 have:=(List.getElem?_eq_some_iff.1 g2).1
 omega
theorem zHi{x:Net}{a:zA}(h:x.sz≤1048576)(ha:a∈x.Bs):a.sz≤x.sz:=by
 have:=zE1 (sz:=zA.sz) ha
 unfold Net.sz
 omega
theorem zFF(n:Nat)(x:Net)(wx:x.wf)(h:x.Bs.length≤1048580){i j:Int}{a:zA}{p:Pt}(ha:idx x.Bs i=some a)(hp:idx a.Ps j=some p):Zz n x i j=some (p,true):=by
 have h1:=zBh ha
 have h2:=zBh hp
 have hl:=(wx.1.2 a (zJZ ha)).2.2.1.1
 have hmx:maxLen=9223372036854775807:=by decide
 unfold Zz
 simp only[qe,zV,bQ,wrap64 (show-9223372036854775808≤(x.Bs.length:Int)-1 by omega) (by omega),tQ (show(0:Int)≤i by omega),tQ (show i≤(x.Bs.length:Int)-1 by omega),Bool.and_self,nQ,fQ,ha,wrap64 (show-9223372036854775808≤(a.Ps.length:Int)-1 by omega) (by omega),tQ (show(0:Int)≤j by omega),tQ (show j≤(a.Ps.length:Int)-1 by omega),hp]
theorem zEA(n:Nat)(x:Net)(wx:x.wf)(h:x.sz≤1048576)(hn:1048577<n):∀(m k:Nat),k≤x.Ls.length→x.Ls.length<m+k→∃o,Qt n m x k=some o∧Qp n m x k=some o
 |0,k,h1,h2=>by omega
 | m + 1,k,h1,h2 => by
  have hsz:=h
  unfold Net.sz at hsz
  rw[Qt,Qp]
  by_cases hk:k<x.Ls.length
  ·obtain⟨o,i1,i2⟩:=zEA n x wx h hn m (k+1) (by omega) (by omega)
   obtain⟨u,u1,u2⟩:=JU n x k wx (by omega)
   simp only[qU hk,cQ,zK hk,u1,u2,bQ,vQ k,i1,i2]
   cases u with
   |false=>exact⟨o,rfl,rfl⟩
   |true=>
    obtain⟨l,a,b,p,q,hl,ha,hp,_,hb,hq,_⟩:=zA5 n x k u1
    have:l=x.Ls[k]:=Option.some.inj (hl.symm.trans (zK hk))
    subst this
    have sa:=zHi h (zJZ ha)
    have sb:=zHi h (zJZ hb)
    unfold zA.sz at sa sb
    obtain⟨va,hva⟩:=J3 n a.Id a.Ps x.Ls[k].P (by omega) (by omega)
    obtain⟨vb,hvb⟩:=J3 n b.Id b.Ps x.Ls[k].Q (by omega) (by omega)
    simp only[cQ,zBP,QV,Yk,zDw,zK hk,bQ,ha,hb,hp,hq,hva,hvb,zB5,fQ,zFF n x wx (by omega) ha hp,zFF n x wx (by omega) hb hq]
    generalize ((p.Hd.Root==vb.Root)&&((p.Hd.Co==vb.Co)&&((p.Hd.Hops==vb.Hops)&&((p.Hd.Bridge==vb.Bridge)&&((p.Hd.Port==vb.Port)&&true)))))=c1
    generalize ((q.Hd.Root==va.Root)&&((q.Hd.Co==va.Co)&&((q.Hd.Hops==va.Hops)&&((q.Hd.Bridge==va.Bridge)&&((q.Hd.Port==va.Port)&&true)))))=c2
    cases p.Has<;>cases q.Has<;>cases c1<;>cases c2<;>exact⟨_,rfl,rfl⟩
  ·have e:k=x.Ls.length:=by omega
   subst e
   rw[z6]
   exact⟨_,rfl,rfl⟩
theorem zIh(n:Nat)(x:Net)(wx:x.wf)(h:x.sz≤1048576)(hn:1048577<n):∃b,Z4 n x=some b∧Zy n x=some b:=by
 have hsz:=h
 unfold Net.sz at hsz
 obtain⟨o,h1,h2⟩:=zEA n x wx h hn n 0 (by omega) (by omega)
 have h1:Qt n n x 0=some o:=h1
 have h2:Qp n n x 0=some o:=h2
 unfold Z4 Zy
 rw[h1,h2]
 cases o<;>exact⟨_,rfl,rfl⟩
theorem zJY{c:Bool}{x:Option Bool}(h:(bif c then x else some false)=some true):c=true∧x=some true:=by
 cases c with
 |true=>exact⟨rfl,h⟩
 |false=>cases h
theorem zMd{L:Nat→Int→Option (Unit⊕Bool)}{N:Nat}{P:Nat→Prop}(h0:∀k,L 0 k=none)(hs:∀m (k:Nat) o,k<N→L (m+1) (k:Int)=some o→o=.inr false∨(P k∧L m ((k+1:Nat):Int)=some o))(he:∀m o,L (m+1) (N:Int)=some o→o=.inl ()):
  ∀(m k:Nat) o,k≤N→L m (k:Int)=some o→o=.inr false∨(o=.inl ()∧∀j,k≤j→j<N→P j)
 |0,k,o,_,h=>by rw[h0]at h;cases h
 | m + 1,k,o,hk,h => by
  by_cases hlt:k<N
  ·rcases hs m k o hlt h with e|⟨hp,h⟩
   ·exact .inl e
   ·rcases zMd h0 hs he m (k+1) o (by omega) h with e|⟨e,h2⟩
    ·exact .inl e
    ·refine .inr ⟨e,fun j hj hj2=>?_⟩
     by_cases hjk:j=k
     ·subst hjk;exact hp
     ·exact h2 j (by omega) hj2
  ·have:k=N:=by omega
   subst this
   exact .inr ⟨he m o h,fun j hj hj2=>by omega⟩
theorem zHI(n:Nat)(x:zA)(hl:x.Ps.length≤1048580){o:Unit⊕Bool}(h:qJ n n x 0=some o):o=.inr false∨(o=.inl ()∧∀j (hj:j<x.Ps.length),qZ n x.Ps[j]=some true):=by
 rcases zMd (L:=fun m k=>qJ n m x k) (N:=x.Ps.length) (P:=fun j=>∀hj:j<x.Ps.length,qZ n x.Ps[j]=some true) (fun k=>rfl) (fun m k o hk h=>by
  simp only[qJ]at h
  rw[qU hk,cQ,zK hk,bQ,vQ k]at h
  obtain⟨b,hb⟩:=zHQ n x.Ps[k]
  rw[hb,bQ]at h
  cases b with
  |true=>exact .inr ⟨fun _=>hb,h⟩
  |false=>cases h;exact .inl rfl) (fun m o h=>by
  simp only[qJ]at h
  rw[z6]at h;cases h;rfl) n 0 o (by omega) h with e|⟨e,h2⟩
 ·exact .inl e
 ·exact .inr ⟨e,fun j hj=>h2 j (by omega) hj hj⟩
theorem qF(n:Nat)(x:zA)(hl:x.Ps.length≤1048580)(h:zg n x=some true):1≤x.Ps.length∧x.Ps.length≤6∧1≤x.Id∧x.Id≤99∧x.Name.size≤10∧Zr n x.F=some true∧qN n x.V (x.Ps.length:Int)=some true∧
  (0≤x.Tk∧x.Tk≤1000000)∧(0≤x.Pa∧x.Pa≤1000000)∧(0≤x.Wo∧x.Wo≤1000000)∧(0≤x.Dr∧x.Dr≤1000000)∧(0≤x.Ve∧x.Ve≤1000000)∧∀j (hj:j<x.Ps.length),qZ n x.Ps[j]=some true:=by
 unfold zg at h
 obtain⟨o,ho,h⟩:=bind_some h
 rcases zHI n x hl ho with rfl|⟨rfl,hp⟩
 ·cases h
 ·simp only[YE,JQ,zV,bQ]at h
  obtain⟨h1,h⟩:=zJY h
  obtain⟨h2,h⟩:=zJY h
  obtain⟨h3,h⟩:=zJY h
  obtain⟨b4,h4,h⟩:=bind_some h
  obtain⟨rfl,h⟩:=zJY h
  obtain⟨b5,h5,h⟩:=bind_some h
  obtain⟨rfl,h⟩:=zJY h
  obtain⟨b6,h6,h⟩:=bind_some h
  cases h
  obtain⟨h7,h6⟩:=zJY h6
  obtain⟨h8,h6⟩:=zJY h6
  obtain⟨h9,h6⟩:=zJY h6
  obtain⟨h10,h6⟩:=zJY h6
  have h11:=Option.some.inj h6
  simp only[Bool.and_eq_true,decide_eq_true_eq]at h1 h2 h3 h7 h8 h9 h10 h11
  exact⟨by omega,by omega,h1.1,h1.2,by omega,h4,h5,h7,h8,h9,h10,h11,hp⟩
theorem zIC(n:Nat)(z:Int)(h0:0≤z)(h1:z≤1000000):∃y,zAY n z=some y∧zGf n z=some y∧0≤y∧y≤1000000:=by
 unfold zAY zGf
 rw[wQ]
 by_cases h:z≥1000000
 ·rw[tQ h,if_pos (by omega)];exact⟨z,rfl,by rw[show z=1000000 by omega],h0,h1⟩
 ·rw[dQ h,if_neg (by omega)];exact⟨_,rfl,rfl,by omega,by omega⟩
theorem zJx{α β:Type}{p:α→Bool}{L:Nat→Int→List α→Option (List α⊕β)}(xs:List α)(hx:xs.length≤134217728)
  (h:∀m (k:Nat) (acc:List α) (hk:k<xs.length),acc.length≤k→L (m+1) k acc=L m ((k+1:Nat):Int) (acc++if p xs[k]then [xs[k]]else [])) (he:∀m (acc:List α),L (m+1) (xs.length:Int) acc=some (.inl acc)):
  ∀(m k:Nat) (acc:List α),k≤xs.length→xs.length<m+k→acc.length≤k→L m k acc=some (.inl (acc++(xs.drop k).filter p))
 |0,k,acc,h1,h2,h3=>by omega
 | m + 1,k,acc,h1,h2,h3 => by
  by_cases hk:k<xs.length
  ·rw[h m k acc hk h3,zJx xs hx h he m (k+1) _ (by omega) (by omega) (by split<;>simp<;>omega),List.drop_eq_getElem_cons hk,List.filter_cons,List.append_assoc]
   split<;>simp
  ·have:k=xs.length:=by omega
   subst this
   rw[he m acc]
   simp
theorem zBo(n:Nat)(xs:List zM)(p:Int)(h:xs.length≤134217728)(hn:xs.length<n):zAd n xs p=some (xs.filter fun v=>v.Sc||v.Port != p):=by
 have:=zJx (p:=fun v:zM=>v.Sc||v.Port != p) (L:=fun m k acc=>ZB n m xs p k acc) xs h (fun m k acc hk ha=>by
  simp only[ZB]
  rw[qU hk,cQ,zK hk,bQ,vQ k]
  have hg:∀v:zM,decide (acc.length+ [v].length≤268435456)=true:=fun v=>tQ (by simp;omega)
  simp only[bQ,hg,cQ]
  cases hs:xs[k].Sc<;>cases hq:(xs[k].Port != p)<;>simp[hs,hq]) (fun m acc=>by simp only[ZB];rw[z6];rfl) n 0 [] (by omega) (by omega) (by simp)
 unfold zAd
 rw[show ZB n n xs p 0 []= _ from this]
 simp[JT]
theorem zHe(n:Nat)(xs:List zM)(p:Int)(h:xs.length≤134217728)(hn:xs.length<n):zD5 n xs p=some (xs.filter fun v=>v.Sc||v.Port != p):=by
 have:=zJx (p:=fun v:zM=>v.Sc||v.Port != p) (L:=fun m k acc=>QA n m xs p k acc) xs h (fun m k acc hk ha=>by
  simp only[QA]
  rw[qU hk,cQ,zK hk,bQ,vQ k]
  have hg:∀v:zM,decide (acc.length+ [v].length≤268435456)=true:=fun v=>tQ (by simp;omega)
  simp only[bQ,hg,cQ]
  cases hs:xs[k].Sc<;>cases hq:(xs[k].Port != p)<;>simp[hs,hq]) (fun m acc=>by simp only[QA];rw[z6];rfl) n 0 [] (by omega) (by omega) (by simp)
 unfold zD5
 rw[show QA n n xs p 0 []= _ from this]
 simp[zFD]
theorem zBE(n:Nat)(bits:Int)(x:zA)(h:x.Ps.length≤6):∀(m k:Nat) (ys:List zM),k≤x.Ps.length→x.Ps.length<m+k→ys.length≤134217728→ys.length<n→∃zs:List zM,qm n m bits x k ys=some (.inl zs)∧Qh n m bits x k ys=some (.inl zs)∧zs.length≤ys.length∧(∀v∈zs,v∈ys)∧∀v∈zs,v.Sc=true∨∀j:Nat,k≤j→j<x.Ps.length→zMn bits j=false→v.Port≠j
 |0,k,ys,h1,h2,h3,h4=>by omega
 | m + 1,k,ys,h1,h2,h3,h4 => by
  rw[qm,Qh]
  by_cases hk:k<x.Ps.length
  ·rw[qU hk,cQ,cQ,zCH n bits k (by omega),zCf n bits k (by omega),bQ,bQ,vQ k,zBo n ys _ h3 h4,zHe n ys _ h3 h4]
   cases hb:zMn bits k with
   |true=>
    simp only[nQ,fQ]
    obtain⟨zs,e1,e2,e3,e4,e5⟩:=zBE n bits x h m (k+1) ys (by omega) (by omega) h3 h4
    refine⟨zs,e1,e2,e3,e4,fun v hv=>(e5 v hv).imp id fun h5 j hj hj2 hj3=>?_⟩
    by_cases hjk:j=k
    ·subst hjk;rw[hb]at hj3;cases hj3
    ·exact h5 j (by omega) hj2 hj3
   | false =>
    simp only[Bool.not_false,cQ,bQ]
    have hle:=List.length_filter_le (fun v:zM=>v.Sc||v.Port != (k:Int)) ys
    obtain⟨zs,e1,e2,e3,e4,e5⟩:=zBE n bits x h m (k+1) (ys.filter fun v=>v.Sc||v.Port != (k:Int)) (by omega) (by omega) (by omega) (by omega)
    refine⟨zs,e1,e2,by omega,fun v hv=>(List.mem_filter.1 (e4 v hv)).1,fun v hv=>?_⟩
    have hf:=(List.mem_filter.1 (e4 v hv)).2
    rcases e5 v hv with h5|h5
    ·exact .inl h5
    ·cases hs:v.Sc with
     |true=>exact .inl rfl
     |false=>
      refine .inr fun j hj hj2 hj3=>?_
      by_cases hjk:j=k
      ·subst hjk;rw[hs]at hf;simpa using hf
      ·exact h5 j (by omega) hj2 hj3
  ·have he:k=x.Ps.length:=by omega
   subst he
   rw[z6]
   exact⟨ys,rfl,rfl,Nat.le_refl _,fun v hv=>hv,fun v hv=>.inr fun j hj hj2=>by omega⟩
theorem zHK(n:Nat)(x:zA)(h:x.Ps.length≤6)(hf:x.F.length≤134217728)(hn:x.F.length<n)(hn6:6<n)(hv0:0≤x.Ve)(hv1:x.Ve≤1000000):∃(zs:List zM) (v b:Int),ZK n x=some ⟨x.Id,x.Name,x.Ps,zs,x.V,x.Tk,x.Pa,x.Wo,x.Dr,v⟩∧Z9 n x=some ⟨x.Id,x.Name,x.Ps,zs,x.V,x.Tk,x.Pa,x.Wo,x.Dr,v⟩∧
  zs.length≤x.F.length∧(∀u∈zs,u∈x.F)∧0≤v∧v≤1000000∧Zs n x.Id x.Ps=some b∧∀u∈zs,u.Sc=true∨∀j:Nat,j<x.Ps.length→zMn b j=false→u.Port≠j:=by
 obtain⟨v,h1,h2,h3,h4⟩:=zIC n x.Ve hv0 hv1
 obtain⟨e,b,hb⟩:=zFy n x.Id x.Ps (by omega) (by omega)
 obtain⟨zs,k1,k2,k3,k4,k5⟩:=zBE n b x h n 0 x.F (by omega) (by omega) hf hn
 refine⟨zs,v,b,?_,?_,k3,k4,h3,h4,hb,fun u hu=>(k5 u hu).imp id fun h5 j hj=>h5 j (by omega) hj⟩
 ·unfold ZK
  rw[h1,bQ,hb,bQ,show qm n n b x 0 x.F= _ from k1]
  rfl
 ·unfold Z9
  rw[h2,bQ,e,hb,bQ,show Qh n n b x 0 x.F= _ from k2]
  rfl
theorem Yw(n:Nat)(x:zA)(h:x.sz≤268435456):YS n x=some x:=by
 have hs:x.Name.size+x.Ps.length+x.F.length+x.V.sz=x.sz:=rfl
 unfold YS ZO
 rw[zAi n x.V (by omega),tQ (by simp;omega),tQ (by simp;omega)]
 rfl
theorem Qk(n:Nat)(x:zA)(h:x.sz≤268435456):YC n x=some x:=by
 have hs:x.Name.size+x.Ps.length+x.F.length+x.V.sz=x.sz:=rfl
 unfold YC zIB
 rw[zIe n x.V (by omega),tQ (by simp;omega),tQ (by simp;omega)]
 rfl
theorem zAK(n:Nat)(x:zA)(p:Int)(b:Bool)(hb:zg n x=some b)(hl:x.Ps.length≤1048580):zAB n x p=some (b&&(decide (0≤p)&&decide (p<x.Ps.length))):=by
 unfold zAB
 rw[hb,bQ,zV,wQ]
 have:decide (p≤(x.Ps.length:Int)-1)=decide (p<x.Ps.length):=by
  by_cases h:p<x.Ps.length
  ·rw[tQ h,tQ (by omega)]
  ·rw[dQ h,dQ (by omega)]
 rw[this]
 cases b<;>rfl
theorem zBY(n:Nat)(x:zA)(p:Int)(b:Bool)(hb:J8 n x=some b)(hl:x.Ps.length≤1048580):zEV n x p=some (b&&(decide (0≤p)&&decide (p<x.Ps.length))):=by
 unfold zEV
 rw[hb,bQ,qe,zV,wQ]
 have:decide (p≤(x.Ps.length:Int)-1)=decide (p<x.Ps.length):=by
  by_cases h:p<x.Ps.length
  ·rw[tQ h,tQ (by omega)]
  ·rw[dQ h,dQ (by omega)]
 rw[this]
 cases b<;>rfl
theorem zFl(n:Nat)(x:zA)(hn:1048577<n)(hx:x.sz≤1048576)(hb:zg n x=some true)(ps:List Pt)(hp:ps.length=x.Ps.length)(fs:List zM)(hf:fs.length≤x.F.length)(t:Int):∃(zs:List zM) (v b:Int),ZK n ⟨x.Id,x.Name,ps,fs,x.V,t,x.Pa,x.Wo,x.Dr,x.Ve⟩=some ⟨x.Id,x.Name,ps,zs,x.V,t,x.Pa,x.Wo,x.Dr,v⟩∧
  Z9 n ⟨x.Id,x.Name,ps,fs,x.V,t,x.Pa,x.Wo,x.Dr,x.Ve⟩=some ⟨x.Id,x.Name,ps,zs,x.V,t,x.Pa,x.Wo,x.Dr,v⟩∧zs.length≤fs.length∧(∀u∈zs,u∈fs)∧0≤v∧v≤1000000∧Zs n x.Id ps=some b∧∀u∈zs,u.Sc=true∨∀j:Nat,j<ps.length→zMn b j=false→u.Port≠j:=by
 have hs:x.Name.size+x.Ps.length+x.F.length+x.V.sz=x.sz:=rfl
 obtain⟨p1,p2,p3,p4,p5,p6,p7,p8,p9,p10,p11,p12,p13⟩:=qF n x (by omega) hb
 exact zHK n ⟨x.Id,x.Name,ps,fs,x.V,t,x.Pa,x.Wo,x.Dr,x.Ve⟩ (by simp only;omega) (by simp only;omega) (by simp only;omega) (by omega) p12.1 p12.2
theorem zD9(n:Nat)(xs:List zM)(h:xs.length≤134217728)(ha:∀v∈xs,0≤v.Age∧v.Age≤1000):∀(m k:Nat) (acc:List zM),k≤xs.length→xs.length<m+k→acc.length≤k→∃zs,ZR n m xs k acc=some (.inl zs)∧JB n m xs k acc=some (.inl zs)∧zs.length≤xs.length
 |0,k,acc,h1,h2,h3=>by omega
 | m + 1,k,acc,h1,h2,h3 => by
  rw[ZR,JB]
  by_cases hk:k<xs.length
  ·rw[qU hk,cQ,cQ,zK hk,bQ,bQ,vQ k]
   have hg:∀v:zM,decide (acc.length+ [v].length≤268435456)=true:=fun v=>tQ (by simp;omega)
   simp only[hg,cQ]
   have ih:=fun acc' h3'=>zD9 n xs h ha m (k+1) acc' (by omega) (by omega) h3'
   cases hs:xs[k].Sc with
   |true=>
    simp only[nQ,cQ,fQ]
    exact ih (acc++[xs[k]]) (by simp;omega)
   | false =>
    simp only[Bool.not_false,cQ,fQ]
    by_cases hl:xs[k].Age<4
    ·rw[tQ hl,dQ (by omega:¬xs[k].Age≥4)]
     exact ih _ (by simp;omega)
    ·rw[dQ hl,tQ (by omega:xs[k].Age≥4)]
     exact ih _ (by omega)
  ·have he:k=xs.length:=by omega
   subst he
   rw[z6]
   exact⟨acc,rfl,rfl,by omega⟩
theorem zIg(n:Nat)(xs:List zM)(h:xs.length≤134217728)(hn:xs.length<n)(ha:∀v∈xs,0≤v.Age∧v.Age≤1000):∃zs,Jc n xs=some zs∧zGR n xs=some zs∧zs.length≤xs.length:=by
 obtain⟨zs,h1,h2,h3⟩:=zD9 n xs h ha n 0 [] (by omega) (by omega) (by simp)
 refine⟨zs,?_,?_,h3⟩
 ·unfold Jc;rw[show ZR n n xs 0 []= _ from h1];rfl
 ·unfold zGR;rw[show JB n n xs 0 []= _ from h2];rfl
theorem zGm(n:Nat)(xs:List zM)(h:xs.length≤1048580)(hok:Zr n xs=some true):xs.length≤12∧(∀j (hj:j<xs.length),Zt n xs[j]=some true)∧∀j (hj:j+1<xs.length),QL n xs[j] xs[j+1].Tag xs[j+1].Mac=some true:=by
 unfold Zr at hok
 obtain⟨o,ho,hok⟩:=bind_some hok
 rcases zMd (L:=fun m k=>qt n m xs k) (N:=xs.length) (P:=fun k=>∀hk:k<xs.length,Zt n xs[k]=some true∧∀j (e:k=j+1),QL n (xs[j]'(by omega)) xs[k].Tag xs[k].Mac=some true) (fun k=>rfl) (fun m k o hk h=>by
  simp only[qt]at h
  rw[qU hk,cQ,zK hk,bQ,vQ k]at h
  obtain⟨b,hb⟩:=zD7 n xs[k]
  rw[hb,bQ]at h
  cases b with
  |false=>cases h;exact .inl rfl
  | true =>
   simp only[nQ,fQ]at h
   cases k with
   |zero=>exact .inr ⟨fun _=>⟨hb,fun j e=>by omega⟩,h⟩
   |succ k=>
    have hw2:wI (((k+1:Nat):Int)-1)=(k:Int):=by rw[wQ];omega
    have hpos:decide (((k+1:Nat):Int)>0)=true:=tQ (by omega)
    rw[hpos,hw2,cQ,zK (show k<xs.length by omega),bQ,bQ,bQ]at h
    obtain⟨c,hc⟩:=zFP n (xs[k]'(by omega)) xs[k+1].Tag xs[k+1].Mac
    rw[hc,bQ]at h
    cases c with
    |false=>cases h;exact .inl rfl
    |true=>exact .inr ⟨fun _=>⟨hb,fun j e=>(show k=j by omega)▸hc⟩,h⟩) (fun m o h=>by
  simp only[qt]at h
  rw[z6]at h;cases h;rfl) n 0 o (by omega) ho with rfl|⟨rfl,hp⟩
 ·cases hok
 ·have h12:=of_decide_eq_true (Option.some.inj hok)
  exact⟨by omega,fun j hj=>(hp j (by omega) hj hj).1,fun j hj=>(hp (j+1) (by omega) hj hj).2 j rfl⟩
theorem zGt(n:Nat)(v:zM)(h:Zt n v=some true):(1≤v.Tag∧v.Tag≤99)∧(1≤v.Mac∧v.Mac≤9999)∧(0≤v.Port∧v.Port≤7)∧(0≤v.Age∧v.Age≤4)∧(v.Sc=true→v.Age=0):=by
 unfold Zt at h
 simp only[zV,bQ]at h
 obtain⟨h1,h⟩:=zJY h
 obtain⟨h2,h⟩:=zJY h
 obtain⟨h3,h⟩:=zJY h
 obtain⟨h4,h⟩:=zJY h
 simp only[Bool.and_eq_true,decide_eq_true_eq]at h1 h2 h3 h4
 refine⟨h1,h2,h3,h4,fun hs=>?_⟩
 rw[hs]at h
 simpa using h
theorem zBD(n:Nat)(x:Net)(wx:x.wf)(h:x.sz≤1048576)(hn:1048577<n):∀(m k:Nat) (acc:List Int),k≤x.Ls.length→x.Ls.length<m+k→acc.length≤k→∃zs,QN n m x k acc=some (.inl zs)∧ZJ n m x k acc=some (.inl zs)∧zs.length≤x.Ls.length∧∀z∈zs,z∈acc∨∃j:Nat,j<x.Ls.length∧z=j∧qV n x z=some true
 |0,k,acc,h1,h2,h3=>by omega
 | m + 1,k,acc,h1,h2,h3 => by
  have hs:(x.Bs.length+Ju zA.sz x.Bs)+x.Ls.length+x.Said.length=x.sz:=rfl
  rw[QN,ZJ]
  by_cases hk:k<x.Ls.length
  ·obtain⟨b,e1,e2⟩:=JU n x k wx (by omega)
   rw[qU hk,cQ,cQ,e1,e2,bQ,bQ,vQ k]
   cases b with
   | true =>
    rw[cQ,cQ,tQ (by simp;omega),cQ,cQ]
    obtain⟨zs,f1,f2,f3,f4⟩:=zBD n x wx h hn m (k+1) (acc++[(k:Int)]) (by omega) (by omega) (by simp;omega)
    refine⟨zs,f1,f2,f3,fun z hz=>?_⟩
    rcases f4 z hz with hz|hz
    ·rcases List.mem_append.1 hz with hz|hz
     ·exact .inl hz
     ·obtain rfl:=List.mem_singleton.1 hz
      exact .inr ⟨k,hk,rfl,e1⟩
    ·exact .inr hz
   |false=>exact zBD n x wx h hn m (k+1) acc (by omega) (by omega) (by omega)
  ·have he:k=x.Ls.length:=by omega
   subst he
   rw[z6]
   exact⟨acc,rfl,rfl,by omega,fun z hz=>.inl hz⟩
theorem zCK(n:Nat)(x:Net)(wx:x.wf)(h:x.sz≤1048576)(hn:1048577<n):∃zs,Jr n x=some zs∧ZY n x=some zs∧zs.length≤x.Ls.length∧∀z∈zs,∃j:Nat,j<x.Ls.length∧z=j∧qV n x z=some true:=by
 have hs:(x.Bs.length+Ju zA.sz x.Bs)+x.Ls.length+x.Said.length=x.sz:=rfl
 obtain⟨zs,e1,e2,e3,e4⟩:=zBD n x wx h hn n 0 [] (by omega) (by omega) (by simp)
 refine⟨zs,?_,?_,e3,fun z hz=>(e4 z hz).resolve_left (by simp)⟩
 ·unfold Jr;rw[show QN n n x 0 []= _ from e1];rfl
 ·unfold ZY;rw[show ZJ n n x 0 []= _ from e2];rfl
theorem zRZ:∀i<63,6≤i→∀a<64,zMn ((a:Nat):Int) i=false:=by decide+kernel
theorem zFE(n:Nat)(a i:Int)(h:i<0∨62<i):YO n a i=some false:=by
 unfold YO
 have:(decide ((0:Int)≤i)&&decide (i≤62))=false:=by
  simp only[Bool.and_eq_false_iff,decide_eq_false_iff_not];omega
 simp only[qe,zV,bQ,this,fQ]
theorem zIt(n a:Nat)(ha:a<64)(i:Int):∃b,Jl n (a:Int) i=some b∧YO n (a:Int) i=some b:=by
 by_cases h0:i<0
 ·exact⟨false,zGv n a i (.inl h0),zFE n a i (.inl h0)⟩
 ·obtain⟨k,rfl⟩:=Int.eq_ofNat_of_zero_le (show 0≤i by omega)
  by_cases h7:k≤7
  ·exact⟨_,zCH n a k h7,zCf n a k (by omega)⟩
  ·refine⟨false,zGv n a k (.inr (by omega)),?_⟩
   by_cases h62:k≤62
   ·rw[zCf n a k h62,zRZ k (by omega) (by omega) a ha]
   ·exact zFE n a k (.inr (by omega))
theorem zBp(n:Nat)(x0:Int)(x1:List Pt)(h:x1.length≤1048576):∀(m k a:Nat) o,k≤6→a<64→Zp n m x0 x1 k a=some o→∃b:Nat,o=.inl (b:Int)∧b<64
 |0,k,a,o,h1,h2,h3=>by cases h3
 | m + 1,k,a,o,h1,h2,h3 => by
  rw[Zp]at h3
  by_cases hk:k<x1.length
  ·rw[qU hk,cQ]at h3
   by_cases h6:k<6
   ·rw[tQ (show((k:Nat):Int)<6 by omega),cQ]at h3
    obtain⟨r,hr,h3⟩:=bind_some h3
    rw[zSY (show k≤1099511627776 by omega),tQ (show(0:Int)≤(k:Int) by omega),cQ,zRv k h6 a h2,vQ k]at h3
    cases hc:decide (r≤2)with
    |true=>rw[hc]at h3;exact zBp n x0 x1 h m (k+1) _ o (by omega) (Nat.or_lt_two_pow (n:=6) h2 (Nat.pow_lt_pow_right (by decide) h6)) h3
    |false=>rw[hc]at h3;exact zBp n x0 x1 h m (k+1) a o (by omega) h2 h3
   ·rw[dQ (show¬((k:Nat):Int)<6 by omega)]at h3
    cases h3;exact⟨a,rfl,h2⟩
  ·rw[dQ (by omega)]at h3
   cases h3;exact⟨a,rfl,h2⟩
theorem zIk(n:Nat)(x0:Int)(x1:List Pt)(h:x1.length≤1048576)(hn:x1.length<n):∃b:Nat,b<64∧Zs n x0 x1=some (b:Int)∧zBS n x0 x1=some (b:Int):=by
 obtain⟨e,b,hb⟩:=zFy n x0 x1 h hn
 have hb2:=hb
 unfold Zs at hb2
 obtain⟨o,ho,hb2⟩:=bind_some hb2
 obtain⟨c,rfl,hc⟩:=zBp n x0 x1 h n 0 0 o (by omega) (by omega) ho
 have:(c:Int)=b:=Option.some.inj hb2
 subst this
 exact⟨c,hc,hb,e.trans hb⟩
theorem zEM(n:Nat)(x:Net)(h:x.sz≤1048576)(hn:1048577<n){i p:Int}{a:zA}(ha:idx x.Bs i=some a):∃b,zAE n x i p=some b∧zAs n x i p=some b:=by
 have hm:a∈x.Bs:=List.mem_of_getElem? (zU ha).2
 have:=zHi h hm
 have hs:a.Name.size+a.Ps.length+a.F.length+a.V.sz=a.sz:=rfl
 obtain⟨c,hc,h1,h2⟩:=zIk n a.Id a.Ps (by omega) (by omega)
 obtain⟨b,b1,b2⟩:=zIt n c hc p
 refine⟨b,?_,?_⟩
 ·unfold zAE;rw[ha,bQ,bQ,h1,bQ,b1];rfl
 ·unfold zAs;rw[ha,bQ,bQ,h2,bQ,b2];rfl
theorem zFJ(n:Nat)(x:Net)(wx:x.wf)(h:x.sz≤1048576)(hn:1048577<n):∀(m k:Nat) (acc:List Int),k≤x.Ls.length→x.Ls.length<m+k→acc.length≤k→∃zs,Zg n m x k acc=some (.inl zs)∧Zf n m x k acc=some (.inl zs)∧zs.length≤x.Ls.length
 |0,k,acc,h1,h2,h3=>by omega
 | m + 1,k,acc,h1,h2,h3 => by
  have hs:(x.Bs.length+Ju zA.sz x.Bs)+x.Ls.length+x.Said.length=x.sz:=rfl
  rw[Zg,Zf]
  by_cases hk:k<x.Ls.length
  ·obtain⟨b,e1,e2⟩:=JU n x k wx (by omega)
   rw[qU hk,cQ,cQ,zK hk,bQ,bQ,e1,e2,bQ,bQ]
   have ih:=fun acc' h3'=>zFJ n x wx h hn m (k+1) acc' (by omega) (by omega) h3'
   have hj:∀(f g:Int×List Int→Option (List Int⊕List Int)) (q1:Bool) (hf:∀c:Bool,∃zs,f (((k+1:Nat):Int),(acc++if c then [(k:Int)]else []))=some (.inl zs)∧g (((k+1:Nat):Int),(acc++if c then [(k:Int)]else []))=some (.inl zs)∧zs.length≤x.Ls.length),
     ∃zs,Jd n f k acc q1=some (.inl zs)∧Ja n g k acc q1=some (.inl zs)∧zs.length≤x.Ls.length:=by
    intro f g q1 hf
    unfold Jd Ja
    rw[vQ k,tQ (by simp;omega),cQ,cQ]
    cases q1 with
    |true=>simpa using hf true
    |false=>simpa using hf false
   have hf:∀c:Bool,∃zs,Zg n m x ((k+1:Nat):Int) (acc++if c then [(k:Int)]else [])=some (.inl zs)∧Zf n m x ((k+1:Nat):Int) (acc++if c then [(k:Int)]else [])=some (.inl zs)∧zs.length≤x.Ls.length:=fun c=>ih _ (by cases c<;>simp<;>omega)
   have hj':=fun q1=>hj (fun v=>Zg n m x v.1 v.2) (fun v=>Zf n m x v.1 v.2) q1 hf
   cases b with
   |true=>
    obtain⟨l,a,b,p,q,hl,ha,hp,_,hb,_⟩:=zA5 n x k e1
    have hll:x.Ls[k]=l:=by rw[zK hk]at hl;exact Option.some.inj hl
    obtain⟨c,c1,c2⟩:=zEM n x h hn (p:=l.P) ha
    obtain⟨d,d1,d2⟩:=zEM n x h hn (p:=l.Q) hb
    rw[hll,cQ,cQ,c1,c2,bQ,bQ]
    cases c with
    |true=>rw[cQ,cQ,d1,d2,bQ,bQ];exact hj' _
    |false=>rw[fQ,fQ];exact hj' _
   |false=>rw[fQ,fQ];exact hj' _
  ·have he:k=x.Ls.length:=by omega
   subst he
   rw[z6]
   exact⟨acc,rfl,rfl,by omega⟩
theorem zKp(n:Nat)(x:Net)(wx:x.wf)(h:x.sz≤1048576)(hn:1048577<n):∃zs,Yl n x=some zs∧Yj n x=some zs∧zs.length≤x.Ls.length:=by
 have hs:(x.Bs.length+Ju zA.sz x.Bs)+x.Ls.length+x.Said.length=x.sz:=rfl
 obtain⟨zs,e1,e2,e3⟩:=zFJ n x wx h hn n 0 [] (by omega) (by omega) (by simp)
 refine⟨zs,?_,?_,e3⟩
 ·unfold Yl;rw[show Zg n n x 0 []= _ from e1];rfl
 ·unfold Yj;rw[show Zf n n x 0 []= _ from e2];rfl
theorem zMc{L:Nat→Int→Option (Unit⊕Bool)}{xs:List Int}{z:Int}(hx:xs.length≤1099511627776)(hs:∀m (k:Nat) (hk:k<xs.length),L (m+1) (k:Int)=bif (xs[k]==z)then some (.inr true)else L m ((k+1:Nat):Int))(he:∀m,L (m+1) (xs.length:Int)=some (.inl ())):
  ∀(m k:Nat),k≤xs.length→xs.length<m+k→L m (k:Int)=some (if z∈xs.drop k then .inr true else .inl ())
 |0,k,h1,h2=>by omega
 | m + 1,k,h1,h2 => by
  by_cases hk:k<xs.length
  ·rw[hs m k hk,zMc hx hs he m (k+1) (by omega) (by omega),List.drop_eq_getElem_cons hk]
   by_cases hz:xs[k]=z
   ·have:(xs[k]==z)=true:=by simpa using hz
    rw[this,cQ,if_pos (by rw[hz];simp)]
   ·have:(xs[k]==z)=false:=by simpa using hz
    rw[this,fQ]
    have:(z∈xs[k]::xs.drop (k+1))↔z∈xs.drop (k+1):=by
     rw[List.mem_cons];exact⟨fun h=>h.resolve_left (fun e=>hz e.symm),.inr⟩
    simp only[this]
  ·have:k=xs.length:=by omega
   subst this
   rw[he m];simp
theorem zBf(n:Nat)(xs:List Int)(z:Int)(h:xs.length≤1048600)(hn:xs.length<n):YV n xs z=some (decide (z∈xs)):=by
 have:=zMc (L:=fun m k=>Qw n m xs z k) (xs:=xs) (z:=z) (by omega) (fun m k hk=>by
  simp only[Qw]
  rw[qU hk,cQ,zK hk,bQ,vQ k]) (fun m=>by simp only[Qw];rw[z6];rfl) n 0 (by omega) (by omega)
 unfold YV
 rw[show Qw n n xs z 0= _ from this]
 by_cases hz:z∈xs
 ·simp[hz]
 ·simp[hz,zBO]
theorem zJc(n:Nat)(xs:List Int)(z:Int)(h:xs.length≤1048600)(hn:xs.length<n):zC0 n xs z=some (decide (z∈xs)):=by
 have:=zMc (L:=fun m k=>Qs n m xs z k) (xs:=xs) (z:=z) (by omega) (fun m k hk=>by
  simp only[Qs]
  rw[qU hk,cQ,zK hk,bQ,vQ k]) (fun m=>by simp only[Qs];rw[z6];rfl) n 0 (by omega) (by omega)
 unfold zC0
 rw[show Qs n n xs z 0= _ from this]
 by_cases hz:z∈xs
 ·simp[hz]
 ·simp[hz,zBJ]
theorem zGO:∀(N:Nat) (xs:List Int),xs.Nodup→(∀z∈xs,0≤z∧z<N)→xs.length≤N
 |0,xs,h,hr=>by
  cases xs with
  |nil=>simp
  |cons z xs=>have:=hr z (by simp);omega
 | N + 1,xs,h,hr => by
  have h1:=zGO N (xs.erase (N:Int)) (h.erase _) (fun z hz=>by
   have hz':=(h.mem_erase_iff).1 hz
   have:=hr z hz'.2
   have:=hz'.1
   omega)
  have:=List.length_erase (a:=(N:Int)) (l:=xs)
  split at this<;>omega
theorem zIF:∀(xs ys:List Int),xs.Nodup→(∀z∈xs,z∈ys)→xs.length≤ys.length
 |[],ys,_,_=>by simp
 |x::xs,ys,h,hs=>by
  have hx:=hs x (by simp)
  have h1:=zIF xs (ys.erase x) (List.nodup_cons.1 h).2 (fun z hz=>(List.mem_erase_of_ne (fun e=>(List.nodup_cons.1 h).1 (by rw[←e];exact hz))).2 (hs z (by simp[hz])))
  have h2:=List.length_erase_of_mem hx
  have h3:=List.length_pos_of_mem hx
  simp only[List.length_cons]
  omega
def JJ(x:Net)(l:List Int)(k:Nat)(S:Int→Prop):Prop:=∀(j:Nat) z lk,k≤j→l[j]? =some z→idx x.Ls z=some lk→0≤lk.A→lk.A<x.Bs.length→0≤lk.B→lk.B<x.Bs.length→(S lk.A↔S lk.B)
def GoodS(N:Nat)(ys:List Int):Prop:=ys.Nodup∧∀z∈ys,0≤z∧z<N
def zG3(N:Nat)(ys:List Int)(a b:Int):List Int:=if a∈ys∧b∉ys∧0≤b∧b<N then ys++[b]else ys
theorem zND{N:Nat}{ys:List Int}{a b:Int}(h:GoodS N ys):GoodS N (zG3 N ys a b):=by
 unfold zG3
 split
 ·rename_i hc
  refine⟨?_,fun z hz=>?_⟩
  ·rw[List.nodup_append]
   exact⟨h.1,by simp,fun x hx y hy=>by obtain rfl:=List.mem_singleton.1 hy;exact fun e=>hc.2.1 (e▸hx)⟩
  ·rcases List.mem_append.1 hz with hz|hz
   ·exact h.2 z hz
   ·obtain rfl:=List.mem_singleton.1 hz
    exact hc.2.2
 ·exact h
theorem zO9{N:Nat}{ys:List Int}{a b z:Int}(h:z∈ys):z∈zG3 N ys a b:=by
 unfold zG3;split
 ·exact List.mem_append_left _ h
 ·exact h
theorem zMV{N:Nat}{ys:List Int}{a b:Int}{S:Int→Prop}(hy:∀z∈ys,S z)(hs:0≤b→b<N→a∈ys→S b):∀z∈zG3 N ys a b,S z:=by
 unfold zG3;split
 ·rename_i hc
  intro z hz
  rcases List.mem_append.1 hz with hz|hz
  ·exact hy z hz
  ·obtain rfl:=List.mem_singleton.1 hz
   exact hs hc.2.2.1 hc.2.2.2 hc.1
 ·exact hy
theorem zO8{N:Nat}{ys:List Int}{a b:Int} :ys.length≤(zG3 N ys a b).length∧((zG3 N ys a b).length=ys.length→zG3 N ys a b=ys∧(0≤b→b<N→a∈ys→b∈ys)):=by
 unfold zG3;split
 ·exact⟨by simp,fun h=>by simp at h⟩
 ·rename_i hc
  exact⟨Nat.le_refl _,fun _=>⟨rfl,fun h0 h1 ha=>Classical.byContradiction fun hb=>hc ⟨ha,hb,h0,h1⟩⟩⟩
theorem Z3(n:Nat)(z:Int)(N:Nat)(h:N≤1048600):ze n z 0 (wI ((N:Int)-1))=some (decide (0≤z∧z<N)):=by
 rw[zV,wQ]
 by_cases h:0≤z∧z<N
 ·rw[tQ h,tQ h.1,tQ (by omega)];rfl
 ·rw[dQ h]
  congr 1
  simp only[Bool.and_eq_false_iff,decide_eq_false_iff_not];omega
theorem zEL(n:Nat)(k:Int×List Int→Option (List Int⊕List Int))(lk:Link)(x:Net)(y2:Int)(ys:List Int)(h:ys.length≤1048590)(hn:1048600<n)(hN:x.Bs.length≤1048600):Yf n k lk x y2 ys=k (wI (y2+1),zG3 x.Bs.length ys lk.B lk.A):=by
 unfold Yf zG3
 simp only[zBf n ys _ (by omega:ys.length≤1048600) (by omega),Z3 n _ _ hN,bQ]
 have hg:decide (ys.length+ [lk.A].length≤268435456)=true:=tQ (by simp;omega)
 simp only[Yg,hg,cQ]
 by_cases h1:lk.B∈ys
 ·by_cases h2:lk.A∈ys
  ·simp[h1,h2]
  ·by_cases h3:0≤lk.A∧lk.A<x.Bs.length
   ·rw[if_pos ⟨h1,h2,h3⟩];simp[h1,h2,h3]
   ·rw[if_neg (fun hc=>h3 hc.2.2)];simp[h1,h2,h3]
 ·simp[h1]
theorem zIr(n m:Nat)(x:Net)(l:List Int)(k:Nat)(ys:List Int)(hk:k<l.length)(hl:l.length≤1048600)(h:ys.length≤1048580)(hn:1048600<n)(hN:x.Bs.length≤1048600)(hK:x.Ls.length≤1048600):
  qG n (m+1) x l k ys=qG n m x l ((k+1:Nat):Int) (match idx x.Ls l[k]with|some lk=>zG3 x.Bs.length (zG3 x.Bs.length ys lk.A lk.B) lk.B lk.A|none=>ys):=by
 rw[qG,qU hk,cQ,zK hk,bQ,Z3 n _ _ hK,bQ,vQ k]
 by_cases hr:0≤l[k]∧l[k]<x.Ls.length
 ·obtain⟨j,hj⟩:=Int.eq_ofNat_of_zero_le hr.1
  have hi:idx x.Ls l[k]=some (x.Ls[j]'(by omega)):=by rw[hj];exact zK (by omega)
  generalize x.Ls[j]'(by omega)=lk at hi
  have hg:decide (ys.length+ [lk.B].length≤268435456)=true:=tQ (by simp;omega)
  have hlen:(ys++[lk.B]).length≤1048590:=by simp;omega
  rw[tQ hr,hi]
  simp only[nQ,fQ,bQ,hi,zBf n ys _ (by omega:ys.length≤1048600) (by omega),Z3 n _ _ hN,Yh,hg,cQ]
  simp only[zEL n _ lk x _ ys (by omega) hn hN,zEL n _ lk x _ _ hlen hn hN,vQ k]
  by_cases h1:lk.A∈ys
  ·by_cases h2:lk.B∈ys
   ·have e:zG3 x.Bs.length ys lk.A lk.B=ys:=by unfold zG3;rw[if_neg (fun hc=>hc.2.1 h2)]
    rw[e];simp[h1,h2]
   ·by_cases h3:0≤lk.B∧lk.B<x.Bs.length
    ·have e:zG3 x.Bs.length ys lk.A lk.B=ys++[lk.B]:=by unfold zG3;rw[if_pos ⟨h1,h2,h3⟩]
     rw[e];simp[h1,h2,h3]
    ·have e:zG3 x.Bs.length ys lk.A lk.B=ys:=by unfold zG3;rw[if_neg (fun hc=>h3 hc.2.2)]
     rw[e];simp[h1,h2,h3]
  ·have e:zG3 x.Bs.length ys lk.A lk.B=ys:=by unfold zG3;rw[if_neg (fun hc=>h1 hc.1)]
   rw[e];simp[h1]
 ·have hi:idx x.Ls l[k]=none:=by
   cases hc:idx x.Ls l[k]with
   |none=>rfl
   |some v=>have:=zBh hc;omega
  rw[dQ hr,hi]
  rfl
theorem zCM(n:Nat)(x:Net)(l:List Int)(hl:l.length≤1048600)(hn:1048600<n)(hN:x.Bs.length≤1048576)(hK:x.Ls.length≤1048600):∀(m k:Nat) (ys:List Int),k≤l.length→l.length<m+k→GoodS x.Bs.length ys→
  ∃zs,qG n m x l k ys=some (.inl zs)∧GoodS x.Bs.length zs∧(∀z∈ys,z∈zs)∧(∀S:Int→Prop,JJ x l k S→(∀z∈ys,S z)→∀z∈zs,S z)∧ys.length≤zs.length∧(zs.length=ys.length→zs=ys∧JJ x l k (· ∈ys))
 |0,k,ys,h1,h2,h3=>by omega
 | m + 1,k,ys,h1,h2,h3 => by
  have hlen:=zGO _ _ h3.1 h3.2
  by_cases hk:k<l.length
  ·rw[zIr n m x l k ys hk hl (by omega) hn (by omega) hK]
   have hget:l[k]? =some l[k]:=List.getElem?_eq_getElem hk
   cases hi:idx x.Ls l[k]with
   |none=>
    obtain⟨zs,e1,e2,e3,e4,e5,e6⟩:=zCM n x l hl hn hN hK m (k+1) ys (by omega) (by omega) h3
    refine⟨zs,e1,e2,e3,fun S hS=>e4 S fun j z lk hj=>hS j z lk (by omega),e5,fun e=>⟨(e6 e).1,fun j z lk hj hz hlk=>?_⟩⟩
    by_cases hjk:j=k
    ·subst hjk;rw[hget]at hz;cases hz;rw[hi]at hlk;cases hlk
    ·exact(e6 e).2 j z lk (by omega) hz hlk
   | some lk =>
    have g1:=zND (a:=lk.A) (b:=lk.B) h3
    have g2:=zND (a:=lk.B) (b:=lk.A) g1
    obtain⟨zs,e1,e2,e3,e4,e5,e6⟩:=zCM n x l hl hn hN hK m (k+1) _ (by omega) (by omega) g2
    have l1:=zO8 (N:=x.Bs.length) (ys:=ys) (a:=lk.A) (b:=lk.B)
    have l2:=zO8 (N:=x.Bs.length) (ys:=zG3 x.Bs.length ys lk.A lk.B) (a:=lk.B) (b:=lk.A)
    refine⟨zs,e1,e2,fun z hz=>e3 z (zO9 (zO9 hz)),fun S hS hy=>e4 S (fun j z lk hj=>hS j z lk (by omega)) (zMV (zMV hy fun b0 b1 ha=>?_) fun a0 a1 hb=>?_),by omega,fun e=>?_⟩
    ·have hr:=h3.2 _ ha
     exact(hS k _ lk (Nat.le_refl _) hget hi hr.1 hr.2 b0 b1).1 (hy _ ha)
    ·have hr:=g1.2 _ hb
     refine(hS k _ lk (Nat.le_refl _) hget hi a0 a1 hr.1 hr.2).2 (zMV hy (fun b0 b1 ha=>?_) _ hb)
     have hr:=h3.2 _ ha
     exact(hS k _ lk (Nat.le_refl _) hget hi hr.1 hr.2 b0 b1).1 (hy _ ha)
    ·obtain⟨k1,k2⟩:=l1.2 (by omega)
     rw[k1]at l2 e5 e6
     obtain⟨k3,k4⟩:=l2.2 (by omega)
     rw[k3]at e5 e6
     obtain⟨k5,k6⟩:=e6 (by omega)
     refine⟨k5,fun j z lk' hj hz hlk a0 a1 b0 b1=>?_⟩
     by_cases hjk:j=k
     ·subst hjk;rw[hget]at hz;cases hz;rw[hi]at hlk;cases hlk
      exact⟨fun ha=>k2 b0 b1 ha,fun hb=>k4 a0 a1 hb⟩
     ·exact k6 j z lk' (by omega) hz hlk a0 a1 b0 b1
  ·have he:k=l.length:=by omega
   subst he
   refine⟨ys,by rw[qG,z6];rfl,h3,fun z h=>h,fun S _ h=>h,Nat.le_refl _,fun _=>⟨rfl,fun j z lk hj hz=>?_⟩⟩
   rw[List.getElem?_eq_none (by omega)]at hz;cases hz
theorem zJr(n:Nat)(x:Net)(l:List Int)(hl:l.length≤1048590)(hn:1048600<n)(hN:x.Bs.length≤1048576)(hK:x.Ls.length≤1048600)(ys:List Int)(h3:GoodS x.Bs.length ys):
  ∃zs,zB0 n x l ys=some zs∧GoodS x.Bs.length zs∧(∀z∈ys,z∈zs)∧(∀S:Int→Prop,JJ x l 0 S→(∀z∈ys,S z)→∀z∈zs,S z)∧ys.length≤zs.length∧(zs.length=ys.length→zs=ys∧JJ x l 0 (· ∈ys)):=by
 have hlen:=zGO _ _ h3.1 h3.2
 obtain⟨zs,e1,e2⟩:=zCM n x l (by omega) hn hN hK n 0 ys (by omega) (by omega) h3
 refine⟨zs,?_,e2⟩
 unfold zB0
 rw[tQ (by simp;omega),cQ,List.nil_append,show qG n n x l 0 ys= _ from e1]
 rfl
theorem zFH(n:Nat)(x:Net)(l:List Int)(hl:l.length≤1048590)(hn:1048600<n)(hN:x.Bs.length≤1048576)(hK:x.Ls.length≤1048600):∀(m k:Nat) (ys:List Int),k≤x.Bs.length→x.Bs.length<m+k→GoodS x.Bs.length ys→(k<ys.length∨JJ x l 0 (· ∈ys))→
  ∃zs,YW n m x l k ys=some (.inl zs)∧GoodS x.Bs.length zs∧(∀z∈ys,z∈zs)∧(∀S:Int→Prop,JJ x l 0 S→(∀z∈ys,S z)→∀z∈zs,S z)∧JJ x l 0 (· ∈zs)
 |0,k,ys,h1,h2,h3,h4=>by omega
 | m + 1,k,ys,h1,h2,h3,h4 => by
  have hlen:=zGO _ _ h3.1 h3.2
  rw[YW]
  by_cases hk:k<x.Bs.length
  ·obtain⟨zs,e1,e2,e3,e4,e5,e6⟩:=zJr n x l hl hn hN hK ys h3
   rw[qU hk,cQ,e1,bQ,vQ k]
   obtain⟨us,f1,f2,f3,f4,f5⟩:=zFH n x l hl hn hN hK m (k+1) zs (by omega) (by omega) e2 (by
    by_cases he:zs.length=ys.length
    ·obtain⟨g1,g2⟩:=e6 he
     rw[g1];exact .inr g2
    ·rcases h4 with h4|h4
     ·exact .inl (by omega)
     ·exact absurd (by
       have hle:=zGO _ _ e2.1 e2.2
       have hsub:∀z∈zs,z∈ys:=e4 (· ∈ys) h4 (fun z h=>h)
       have:zs.length≤ys.length:=by
        exact zIF zs ys e2.1 hsub
       omega) he)
   exact⟨us,f1,f2,fun z hz=>f3 z (e3 z hz),fun S hS hy=>f4 S hS (e4 S hS hy),f5⟩
  ·have he:k=x.Bs.length:=by omega
   subst he
   rw[z6]
   exact⟨ys,rfl,h3,fun z h=>h,fun S _ h=>h,h4.resolve_left (by omega)⟩
def Qa(met:List Bool)(z:Int):Prop:=0≤z∧met[z.toNat]? =some true
theorem zOG{met:List Bool}{z:Int}(h0:0≤z)(h1:z<met.length):∃b,idx met z=some b∧(Qa met z↔b=true):=by
 obtain⟨j,rfl⟩:=Int.eq_ofNat_of_zero_le h0
 have hj:j<met.length:=by omega
 refine⟨met[j],zK hj,?_⟩
 simp[Qa,hj]
theorem zIE{met:List Bool}{i z:Int}(h0:0≤i)(h1:i<met.length):Qa (met.set i.toNat true) z↔z=i∨Qa met z:=by
 obtain⟨j,rfl⟩:=Int.eq_ofNat_of_zero_le h0
 have hj:j<met.length:=by omega
 unfold Qa
 simp only[Int.toNat_natCast]
 by_cases hz:z=(j:Int)
 ·subst hz
  simp[hj]
 ·constructor
  ·rintro⟨a,b⟩
   rw[List.getElem?_set_ne (by omega)]at b
   exact .inr ⟨a,b⟩
  ·rintro(e|⟨a,b⟩)
   ·exact absurd e hz
   ·exact⟨a,by rw[List.getElem?_set_ne (by omega)];exact b⟩
theorem zEo:∀(met:List Bool) (j:Nat),met[j]? =some false→(met.set j true).count true=met.count true+1
 |[],j,h=>by simp at h
 |b::met,0,h=>by
  simp only[List.getElem?_cons_zero,Option.some.injEq]at h
  subst h
  simp
 |b::met,j+1,h=>by
  simp only[List.getElem?_cons_succ]at h
  have:=zEo met j h
  simp only[List.set_cons_succ,List.count_cons,this]
  omega
theorem zFh:∀(met:List Bool) (j:Nat),met[j]? =some true→met.set j true=met
 |[],j,h=>by simp
 |b::met,0,h=>by
  simp only[List.getElem?_cons_zero,Option.some.injEq]at h
  subst h;rfl
 |b::met,j+1,h=>by
  simp only[List.getElem?_cons_succ]at h
  simp only[List.set_cons_succ,zFh met j h]
theorem zCe(n:Nat)(x:Net)(l:List Int)(hl:l.length≤1048590)(hN:x.Bs.length≤1048576)(hK:x.Ls.length≤1048600):∀(m k:Nat) (more:Bool) (met:List Bool),k≤l.length→l.length<m+k→met.length=x.Bs.length→
  ∃(more':Bool) (met':List Bool),ZD n m x l k more met=some (.inl (more',met'))∧met'.length=x.Bs.length∧(∀z,Qa met z→Qa met' z)∧(∀S:Int→Prop,JJ x l k S→(∀z,Qa met z→S z)→∀z,Qa met' z→S z)∧met.count true≤met'.count true∧
   (more=true→more'=true)∧(more'=true→more=true∨met.count true<met'.count true)∧(more'=false→met'=met∧JJ x l k (Qa met))
 |0,k,more,met,h1,h2,h3=>by omega
 | m + 1,k,more,met,h1,h2,h3 => by
  rw[ZD]
  by_cases hk:k<l.length
  ·have hget:l[k]? =some l[k]:=List.getElem?_eq_getElem hk
   rw[qU hk,cQ,zK hk,bQ,qe,Z3 n _ _ hK,bQ,vQ k]
   have skip:(∀lk,idx x.Ls l[k]=some lk→0≤lk.A→lk.A<x.Bs.length→0≤lk.B→lk.B<x.Bs.length→(Qa met lk.A↔Qa met lk.B))→∃(more':Bool) (met':List Bool),ZD n m x l ((k+1:Nat):Int) more met=some (.inl (more',met'))∧met'.length=x.Bs.length∧(∀z,Qa met z→Qa met' z)∧(∀S:Int→Prop,JJ x l k S→(∀z,Qa met z→S z)→∀z,Qa met' z→S z)∧met.count true≤met'.count true∧
     (more=true→more'=true)∧(more'=true→more=true∨met.count true<met'.count true)∧(more'=false→met'=met∧JJ x l k (Qa met)):=by
    intro hc
    obtain⟨mo,met',e1,e2,e3,e4,e5,e8,e6,e7⟩:=zCe n x l hl hN hK m (k+1) more met (by omega) (by omega) h3
    refine⟨mo,met',e1,e2,e3,fun S hS=>e4 S fun j z lk hj=>hS j z lk (by omega),e5,e8,e6,fun hf=>⟨(e7 hf).1,fun j z lk hj hz hlk a0 a1 b0 b1=>?_⟩⟩
    by_cases hjk:j=k
    ·subst hjk;rw[hget]at hz;cases hz;exact hc lk hlk a0 a1 b0 b1
    ·exact(e7 hf).2 j z lk (by omega) hz hlk a0 a1 b0 b1
   by_cases hr:0≤l[k]∧l[k]<x.Ls.length
   ·obtain⟨j,hj⟩:=Int.eq_ofNat_of_zero_le hr.1
    have hi:idx x.Ls l[k]=some (x.Ls[j]'(by omega)):=by rw[hj];exact zK (by omega)
    generalize x.Ls[j]'(by omega)=lk at hi
    rw[tQ hr,hi]
    simp only[nQ,fQ,bQ,Z3 n _ _ (show met.length≤1048600 by omega)]
    by_cases hA:0≤lk.A∧lk.A<met.length
    ·by_cases hB:0≤lk.B∧lk.B<met.length
     ·obtain⟨a,ha,ha2⟩:=zOG hA.1 hA.2
      obtain⟨b,hb,hb2⟩:=zOG hB.1 hB.2
      rw[tQ hA,tQ hB]
      simp only[cQ,bQ,ha,hb,Qq]
      by_cases hab:a=b
      ·subst hab
       simp only[beq_self_eq_true,nQ,fQ,vQ k]
       exact skip fun lk' hlk' _ _ _ _=>by rw[hi]at hlk';cases hlk';rw[ha2,hb2]
      ·have:(!(a==b))=true:=by simpa using hab
       obtain⟨a',ha'⟩:∃c,idx (met.set lk.A.toNat true) lk.B=some c:=by
        obtain⟨c,hc,_⟩:=zOG (met:=met.set lk.A.toNat true) hB.1 (by simpa using hB.2)
        exact⟨c,hc⟩
       rw[this]
       simp only[cQ,bQ,ha',vQ k]
       obtain⟨mo,met',e1,e2,e3,e4,e5,e8,e6,e7⟩:=zCe n x l hl hN hK m (k+1) true ((met.set lk.A.toNat true).set lk.B.toNat true) (by omega) (by omega) (by simpa using h3)
       have hcnt:met.count true<((met.set lk.A.toNat true).set lk.B.toNat true).count true:=by
        obtain⟨jA,eA⟩:=Int.eq_ofNat_of_zero_le hA.1
        obtain⟨jB,eB⟩:=Int.eq_ofNat_of_zero_le hB.1
        have gA:=(zU ha).2
        have gB:=(zU hb).2
        rw[eA]at gA;rw[eB]at gB
        rw[eA,eB]
        simp only[Int.toNat_natCast]at gA gB⊢
        cases a with
        | true =>
         cases b with
         |true=>exact absurd rfl hab
         |false=>
          rw[zFh met jA gA,zEo met jB gB];omega
        | false =>
         cases b with
         |false=>exact absurd rfl hab
         |true=>
          have hne:jA≠jB:=fun e=>by subst e;rw[gA]at gB;cases gB
          rw[zFh _ jB (by rw[List.getElem?_set_ne hne];exact gB),zEo met jA gA];omega
       have hmem:∀z,Qa met z→Qa ((met.set lk.A.toNat true).set lk.B.toNat true) z:=fun z hz=>(zIE hB.1 (by simpa using hB.2)).2 (.inr ((zIE hA.1 hA.2).2 (.inr hz)))
       refine⟨mo,met',e1,e2,fun z hz=>e3 z (hmem z hz),fun S hS hy=>e4 S (fun j z lk hj=>hS j z lk (by omega)) (fun z hz=>?_),by omega,fun _=>e8 rfl,fun _=>.inr (by omega),fun hf=>?_⟩
       ·have hcl:=hS k _ lk (Nat.le_refl _) hget hi hA.1 (by omega) hB.1 (by omega)
        have hany:S lk.A∧S lk.B:=by
         cases a with
         |true=>have:=hy _ (ha2.2 rfl);exact⟨this,hcl.1 this⟩
         |false=>
          cases b with
          |false=>exact absurd rfl hab
          |true=>have:=hy _ (hb2.2 rfl);exact⟨hcl.2 this,this⟩
        rcases(zIE hB.1 (by simpa using hB.2)).1 hz with e|hz
        ·subst e;exact hany.2
        ·rcases(zIE hA.1 hA.2).1 hz with e|hz
         ·subst e;exact hany.1
         ·exact hy z hz
       ·rw[e8 rfl]at hf;cases hf
     ·rw[tQ hA,dQ hB]
      simp only[cQ,fQ,bQ,Qq,vQ k]
      exact skip fun lk' hlk' _ _ b0 b1=>by rw[hi]at hlk';cases hlk';exact absurd ⟨b0,by omega⟩ hB
    ·rw[dQ hA]
     simp only[fQ,bQ,Qq,vQ k]
     exact skip fun lk' hlk' a0 a1 _ _=>by rw[hi]at hlk';cases hlk';exact absurd ⟨a0,by omega⟩ hA
   ·rw[dQ hr]
    simp only[Bool.not_false,cQ]
    exact skip fun lk hlk=>by have:=zBh hlk;exact absurd ⟨this.1,by omega⟩ hr
  ·have he:k=l.length:=by omega
   subst he
   rw[z6]
   refine⟨more,met,rfl,h3,fun z h=>h,fun S _ h=>h,Nat.le_refl _,fun h=>h,fun h=>.inl h,fun _=>⟨rfl,fun j z lk hj hz=>?_⟩⟩
   rw[List.getElem?_eq_none (by omega)]at hz;cases hz
theorem zCd(n:Nat)(x:Net)(l:List Int)(hl:l.length≤1048590)(hn:1048600<n)(hN:x.Bs.length≤1048576)(hK:x.Ls.length≤1048600):∀(m:Nat) (more:Bool) (met:List Bool),x.Bs.length+2≤m+met.count true+(if more then 0 else 1)→met.length=x.Bs.length→(more=false→JJ x l 0 (Qa met))→
  ∃met':List Bool,Qr n m x l more met=some (.inl met')∧met'.length=x.Bs.length∧(∀z,Qa met z→Qa met' z)∧(∀S:Int→Prop,JJ x l 0 S→(∀z,Qa met z→S z)→∀z,Qa met' z→S z)∧JJ x l 0 (Qa met')
 |0,more,met,h1,h2,h3=>by
  have:=List.count_le_length (a:=true) (l:=met)
  split at h1<;>omega
 | m + 1,more,met,h1,h2,h3 => by
  rw[Qr]
  cases more with
  |false=>exact⟨met,rfl,h2,fun z h=>h,fun S _ h=>h,h3 rfl⟩
  | true =>
   obtain⟨mo,met',e1,e2,e3,e4,e5,e8,e6,e7⟩:=zCe n x l hl hN hK n 0 false met (by omega) (by omega) h2
   rw[cQ,show ZD n n x l 0 false met= _ from e1,bQ]
   simp only[zBG]
   simp only[if_true]at h1
   obtain⟨us,f1,f2,f3,f4,f5⟩:=zCd n x l hl hn hN hK m mo met' (by
    cases mo with
    |true=>have:=(e6 rfl).resolve_left (by simp);simp only[if_true];omega
    |false=>simp only[Bool.false_eq_true,if_false];omega) e2 (fun hf=>by have:=e7 hf;rw[this.1];exact this.2)
   exact⟨us,f1,f2,fun z hz=>f3 z (e3 z hz),fun S hS hy=>f4 S hS (e4 S hS hy),f5⟩
theorem zCI(n:Nat)(x:Net)(ys:List Int)(hy:ys.length≤1048590)(hn:1048600<n)(hN:x.Bs.length≤1048576):∀(m k:Nat) (acc:List Int),k≤x.Bs.length→x.Bs.length<m+k→acc.length≤k→Qu n m x ys k acc=some (.inl (acc++((List.range' k (x.Bs.length-k)).filter fun j:Nat=>decide ((j:Int)∈ys)).map fun j:Nat=>(j:Int)))
 |0,k,acc,h1,h2,h3=>by omega
 | m + 1,k,acc,h1,h2,h3 => by
  rw[Qu]
  by_cases hk:k<x.Bs.length
  ·have hr:List.range' k (x.Bs.length-k)=k::List.range' (k+1) (x.Bs.length-(k+1)):=by
    rw[show x.Bs.length-k=(x.Bs.length-(k+1))+1 by omega,List.range'_succ]
   rw[qU hk,cQ,zBf n ys _ (by omega) (by omega),bQ,show decide (acc.length+ [(k:Int)].length≤268435456)=true from tQ (by simp;omega),cQ,vQ k,hr]
   by_cases hm:(k:Int)∈ys
   ·rw[tQ hm,cQ,zCI n x ys hy hn hN m (k+1) _ (by omega) (by omega) (by simp;omega)]
    simp[hm]
   ·rw[dQ hm,fQ,zCI n x ys hy hn hN m (k+1) _ (by omega) (by omega) (by omega)]
    simp[hm]
  ·have he:k=x.Bs.length:=by omega
   subst he
   rw[z6];simp
theorem zAH(n:Nat)(met:List Bool)(hN:met.length≤1048576):∀(m k:Nat) (acc:List Int),k≤met.length→met.length<m+k→acc.length≤k→QE n m met k acc=some (.inl (acc++((List.range' k (met.length-k)).filter fun j:Nat=>met[j]? ==some true).map fun j:Nat=>(j:Int)))
 |0,k,acc,h1,h2,h3=>by omega
 | m + 1,k,acc,h1,h2,h3 => by
  rw[QE]
  by_cases hk:k<met.length
  ·have hr:List.range' k (met.length-k)=k::List.range' (k+1) (met.length-(k+1)):=by
    rw[show met.length-k=(met.length-(k+1))+1 by omega,List.range'_succ]
   rw[qU hk,cQ,zK hk,bQ,tQ (by simp;omega),cQ,vQ k,hr]
   cases hm:met[k]with
   |true=>
    rw[cQ,zAH n met hN m (k+1) _ (by omega) (by omega) (by simp;omega)]
    simp[hm,hk]
   |false=>
    rw[fQ,zAH n met hN m (k+1) _ (by omega) (by omega) (by omega)]
    simp[hm,hk]
  ·have he:k=met.length:=by omega
   subst he
   rw[z6];simp
theorem zCg(n:Nat)(x:Net)(b:Int)(l:List Int)(hx:x.sz≤1048576)(hl:l.length≤1048590)(hn:1048700<n):∃zs,Z5 n x b l=some zs∧qg n x b l=some zs∧zs.length≤x.Bs.length:=by
 have hs:(x.Bs.length+Ju zA.sz x.Bs)+x.Ls.length+x.Said.length=x.sz:=rfl
 unfold Z5 qg
 rw[qe,Z3 n b _ (show x.Bs.length≤1048600 by omega),bQ,bQ]
 by_cases hb:0≤b∧b<x.Bs.length
 ·rw[tQ hb]
  simp only[nQ,fQ,Int.toNat_natCast]
  obtain⟨j,rfl⟩:=Int.eq_ofNat_of_zero_le hb.1
  have hj:j<x.Bs.length:=by omega
  have hrep:(List.replicate x.Bs.length false).length=x.Bs.length:=List.length_replicate ..
  have hg:(decide (0≤(x.Bs.length:Int))&&decide ((x.Bs.length:Int)≤268435456))=true:=by
   rw[tQ (by omega),tQ (by omega)];rfl
  obtain⟨ys,e1,e2,e3,e4,e5⟩:=zFH n x l hl (by omega) (by omega) (by omega) n 0 [(j:Int)] (by omega) (by omega) ⟨by simp,fun z hz=>by obtain rfl:=List.mem_singleton.1 hz;exact hb⟩ (.inl (by simp))
  have hset:∀z,Qa ((List.replicate x.Bs.length false).set ((j:Int)).toNat true) z↔z=(j:Int):=fun z=>by
   rw[zIE hb.1 (by rw[hrep];exact hb.2)]
   refine or_iff_left ?_
   rintro⟨h0,h1⟩
   rw[List.getElem?_replicate]at h1
   split at h1<;>simp at h1
  obtain⟨met,f1,f2,f3,f4,f5⟩:=zCd n x l hl (by omega) (by omega) (by omega) n true ((List.replicate x.Bs.length false).set ((j:Int)).toNat true) (by simp only[if_true];omega) (by rw[List.length_set,hrep]) (fun h=>by cases h)
  have hle:=zGO _ _ e2.1 e2.2
  rw[show YW n n x l 0 [(j:Int)]= _ from e1,hg,zK (by rw[hrep];exact hj)]
  simp only[cQ,bQ,f1,zBK,J9]
  rw[show Qu n n x ys 0 []= _ from zCI n x ys (by omega) (by omega) (by omega) n 0 [] (by omega) (by omega) (by simp),show QE n n met 0 []= _ from zAH n met (by omega) n 0 [] (by omega) (by omega) (by simp)]
  have heq:(List.range' 0 (met.length-0)).filter (fun j:Nat=>met[j]? ==some true)=(List.range' 0 (x.Bs.length-0)).filter (fun j:Nat=>decide ((j:Int)∈ys)):=by
   rw[f2]
   refine List.filter_congr fun i hi=>?_
   have h1:Qa met (i:Int)↔(i:Int)∈ys:=by
    constructor
    ·exact fun h=>f4 (· ∈ys) e5 (fun z hz=>by rw[(hset z).1 hz];exact e3 _ (by simp)) _ h
    ·exact fun h=>e4 (Qa met) f5 (fun z hz=>by obtain rfl:=List.mem_singleton.1 hz;exact f3 _ ((hset _).2 rfl)) _ h
   by_cases hm:(i:Int)∈ys
   ·have:=(h1.2 hm).2
    simp only[Int.toNat_natCast]at this
    simp[hm,this]
   ·have:¬met[i]? =some true:=fun h=>hm (h1.1 ⟨by omega,by simpa using h⟩)
    simp[hm,this]
  rw[heq]
  refine⟨_,rfl,rfl,?_⟩
  simp only[List.nil_append,List.length_map]
  refine Nat.le_trans (List.length_filter_le ..) ?_
  simp
 ·rw[dQ hb]
  exact⟨[],rfl,rfl,by simp⟩
theorem zId(n:Nat)(xs:List Int)(h:xs.length≤268435456):JC n xs=some xs:=by
 unfold JC
 rw[tQ (by simp;omega)];rfl
theorem zEe(n:Nat)(x:Net)(l:List Int)(hx:x.sz≤1048576)(hl:l.length≤1048576)(hn:1048700<n):∀(m k:Nat),k≤l.length→l.length<m+k→∃o,YQ n m x l k=some o∧YM n m x l k=some o
 |0,k,h1,h2=>by omega
 | m + 1,k,h1,h2 => by
  have hs:(x.Bs.length+Ju zA.sz x.Bs)+x.Ls.length+x.Said.length=x.sz:=rfl
  rw[YQ,YM]
  by_cases hk:k<l.length
  ·obtain⟨o,ih1,ih2⟩:=zEe n x l hx hl hn m (k+1) (by omega) (by omega)
   have hK':x.Ls.length≤1048600:=by omega
   rw[qU hk,cQ,cQ,zK hk,vQ k]
   simp only[bQ,qe,Z3 n _ _ hK']
   by_cases hr:0≤l[k]∧l[k]<x.Ls.length
   ·obtain⟨j,hj⟩:=Int.eq_ofNat_of_zero_le hr.1
    have hi:idx x.Ls l[k]=some (x.Ls[j]'(by omega)):=by rw[hj];exact zK (by omega)
    generalize x.Ls[j]'(by omega)=lk at hi
    rw[tQ hr]
    have g1:(decide ((0:Int)≤0)&&(decide ((0:Int)≤(k:Int))&&decide ((k:Int)≤(l.length:Int))))=true:=by
     rw[tQ (by omega),tQ (by omega),tQ (by omega)];rfl
    have g2:(decide ((0:Int)≤((k+1:Nat):Int))&&(decide (((k+1:Nat):Int)≤(l.length:Int))&&decide ((l.length:Int)≤(l.length:Int))))=true:=by
     rw[tQ (by omega),tQ (by omega),tQ (by omega)];rfl
    have l1:((l.drop ((0:Int)).toNat).take (((k:Int)).toNat-((0:Int)).toNat)).length≤1048576:=by simp;omega
    have l2:((l.drop (((k+1:Nat):Int)).toNat).take (((l.length:Int)).toNat-(((k+1:Nat):Int)).toNat)).length≤1048576:=by simp;omega
    have l3:((l.drop ((0:Int)).toNat).take (((k:Int)).toNat-((0:Int)).toNat)++(l.drop (((k+1:Nat):Int)).toNat).take (((l.length:Int)).toNat-(((k+1:Nat):Int)).toNat)).length≤1048576:=by simp;omega
    rw[zId n _ (by omega)]
    generalize hP:(l.drop ((0:Int)).toNat).take (((k:Int)).toNat-((0:Int)).toNat)=P at l1 l3
    generalize hQ:(l.drop (((k+1:Nat):Int)).toNat).take (((l.length:Int)).toNat-(((k+1:Nat):Int)).toNat)=Q at l2 l3
    obtain⟨zs,j1,j2,j3⟩:=zCg n x lk.A (P++Q) hx (by omega) hn
    have q1:decide (([]:List Int).length+P.length≤268435456)=true:=tQ (by simp;omega)
    have q2:decide ((([]:List Int)++P).length+Q.length≤268435456)=true:=tQ (by simp;omega)
    have q3:decide (P.length+Q.length≤268435456)=true:=tQ (by omega)
    simp only[nQ,fQ,cQ,g1,g2,q1,q2,q3,bQ,hi,List.nil_append,j1,j2,zBf n zs _ (show zs.length≤1048600 by omega) (by omega),zJc n zs _ (show zs.length≤1048600 by omega) (by omega),ih1,ih2]
    by_cases hm:lk.B∈zs
    ·rw[tQ hm];exact⟨_,rfl,rfl⟩
    ·rw[dQ hm];exact⟨_,rfl,rfl⟩
   ·rw[dQ hr]
    simp only[Bool.not_false,cQ]
    exact⟨o,ih1,ih2⟩
  ·have he:k=l.length:=by omega
   subst he
   rw[z6]
   exact⟨_,rfl,rfl⟩
def ZU(b p:Int)(l:Link):Bool:=(l.A==b&&l.P==p)||(l.B==b&&l.Q==p)
def JS(b p:Int)(l:Link):Nat:=(bif l.A==b&&l.P==p then 1 else 0)+(bif l.B==b&&l.Q==p then 1 else 0)
theorem JH{b p:Int}{l:Link} :ZU b p l=true↔(l.A=b∧l.P=p)∨(l.B=b∧l.Q=p):=by simp[ZU]
theorem zGM{b p:Int}{l:Link} :ZU b p l=true↔0<JS b p l:=by
 unfold ZU JS
 cases l.A==b<;>cases l.P==p<;>cases l.B==b<;>cases l.Q==p<;>simp
def JA{α:Type}(f:α→Nat):List α→Nat
 |[]=>0
 |x::xs=>f x+JA f xs
theorem zFZ{α:Type}(f:α→Nat):∀(xs ys:List α),JA f (xs++ys)=JA f xs+JA f ys
 |[],ys=>by simp[JA]
 |x::xs,ys=>by simp only[List.cons_append,JA,zFZ f xs ys];omega
theorem zKA{α:Type}(f:α→Nat):∀(xs:List α),(∀x∈xs,f x=0)→JA f xs=0
 |[],_=>rfl
 |x::xs,h=>by rw[JA,h x (by simp),zKA f xs (fun y hy=>h y (by simp[hy]))]
theorem zJX{α:Type}(f:α→Nat):∀(xs:List α) (x:α),x∈xs→f x≤JA f xs
 |y::xs,x,h=>by
  rcases List.mem_cons.1 h with e|h
  ·subst e;rw[JA];omega
  ·have:=zJX f xs x h;rw[JA];omega
theorem zMe{α:Type}(f:α→Nat)(xs:List α)(i j:Nat)(hij:i<j)(hj:j<xs.length):f (xs[i]'(by omega))+f xs[j]≤JA f xs:=by
 have e:xs=xs.take j++xs.drop j:=(List.take_append_drop j xs).symm
 have h1:f (xs[i]'(by omega))≤JA f (xs.take j):=zJX f _ _ (by
  have:(xs.take j)[i]? =some (xs[i]'(by omega)):=by rw[List.getElem?_take,if_pos hij];exact List.getElem?_eq_getElem _
  exact List.mem_of_getElem? this)
 have h2:f xs[j]≤JA f (xs.drop j):=zJX f _ _ (List.drop_eq_getElem_cons hj▸List.mem_cons_self)
 have h3:=zFZ f (xs.take j) (xs.drop j)
 rw[←e]at h3
 omega
theorem zRw{α:Type}(f:α→Nat)(xs:List α)(k:Nat)(hk:k<xs.length)(h:∀j (hj:j<xs.length),j≠k→f xs[j]=0):JA f xs=f xs[k]:=by
 have e:xs=xs.take k++xs[k]::xs.drop (k+1):=by rw[←List.drop_eq_getElem_cons hk];exact(List.take_append_drop k xs).symm
 have h1:JA f (xs.take k)=0:=zKA f _ fun x hx=>by
  obtain⟨i,hi,rfl⟩:=List.getElem_of_mem hx
  simp only[List.length_take]at hi
  rw[List.getElem_take]
  exact h i (by omega) (by omega)
 have h2:JA f (xs.drop (k+1))=0:=zKA f _ fun x hx=>by
  obtain⟨i,hi,rfl⟩:=List.getElem_of_mem hx
  simp only[List.length_drop]at hi
  rw[List.getElem_drop]
  exact h _ (by omega) (by omega)
 have h3:=zFZ f (xs.take k) (xs[k]::xs.drop (k+1))
 rw[←e]at h3
 rw[JA,h1,h2]at h3
 omega
theorem zLw(xs:List Link)(hne:∀l∈xs,l.A≠l.B):(∀k (hk:k<xs.length),JA (JS xs[k].A xs[k].P) xs=1∧JA (JS xs[k].B xs[k].Q) xs=1)↔(∀k (hk:k<xs.length),(xs.take k).any (ZU xs[k].A xs[k].P)=false∧(xs.take k).any (ZU xs[k].B xs[k].Q)=false):=by
 have own1:∀k (hk:k<xs.length),JS xs[k].A xs[k].P xs[k]=1:=fun k hk=>by
  have:=hne xs[k] (List.getElem_mem hk)
  have h2:(xs[k].B==xs[k].A)=false:=by simpa using fun e=>this e.symm
  simp[JS,h2]
 have own2:∀k (hk:k<xs.length),JS xs[k].B xs[k].Q xs[k]=1:=fun k hk=>by
  have:=hne xs[k] (List.getElem_mem hk)
  have h2:(xs[k].A==xs[k].B)=false:=by simpa using this
  simp[JS,h2]
 constructor
 ·intro h k hk
  have key:∀b p,JS b p xs[k]=1→JA (JS b p) xs=1→(xs.take k).any (ZU b p)=false:=fun b p h1 h2=>by
   rw[List.any_eq_false]
   intro l hl hu
   obtain⟨i,hi,rfl⟩:=List.getElem_of_mem hl
   simp only[List.length_take]at hi
   rw[List.getElem_take]at hu
   have:=zMe (JS b p) xs i k (by omega) hk
   have:=zGM.1 hu
   omega
  exact⟨key _ _ (own1 k hk) (h k hk).1,key _ _ (own2 k hk) (h k hk).2⟩
 ·intro h k hk
  have key:∀b p,JS b p xs[k]=1→ZU b p xs[k]=true→(xs.take k).any (ZU b p)=false→JA (JS b p) xs=1:=fun b p h1 hu h2=>by
   rw[zRw (JS b p) xs k hk (fun j hj hjk=>?_),h1]
   rw[List.any_eq_false]at h2
   refine Classical.byContradiction fun hc=>?_
   have hpos:=zGM.2 (show 0<JS b p xs[j] by omega)
   by_cases hlt:j<k
   ·refine h2 xs[j] ?_ hpos
    have:(xs.take k)[j]? =some xs[j]:=by rw[List.getElem?_take,if_pos hlt];exact List.getElem?_eq_getElem _
    exact List.mem_of_getElem? this
   ·have hkj:k<j:=by omega
    have hmem:xs[k]∈xs.take j:=by
     have:(xs.take j)[k]? =some xs[k]:=by rw[List.getElem?_take,if_pos hkj];exact List.getElem?_eq_getElem _
     exact List.mem_of_getElem? this
    have hh:=h j hj
    rw[List.any_eq_false,List.any_eq_false]at hh
    rcases JH.1 hpos with⟨e1,e2⟩|⟨e1,e2⟩
    ·exact hh.1 _ hmem (by rw[e1,e2];exact hu)
    ·exact hh.2 _ hmem (by rw[e1,e2];exact hu)
  exact⟨key _ _ (own1 k hk) (JH.2 (.inl ⟨rfl,rfl⟩)) (h k hk).1,key _ _ (own2 k hk) (JH.2 (.inr ⟨rfl,rfl⟩)) (h k hk).2⟩
theorem zFt(n:Nat)(xs:List Link)(b p:Int)(h:xs.length≤1048600):∀(m k:Nat),k≤xs.length→xs.length<m+k→Jb n m xs b p k=some (if(xs.drop k).any (ZU b p)then .inr true else .inl ())
 |0,k,h1,h2=>by omega
 | m + 1,k,h1,h2 => by
  rw[Jb]
  by_cases hk:k<xs.length
  ·have ih:=zFt n xs b p h m (k+1) (by omega) (by omega)
   rw[qU hk,cQ,zK hk,bQ,vQ k,ih,List.drop_eq_getElem_cons hk,List.any_cons]
   unfold ZU
   cases xs[k].A==b<;>cases xs[k].P==p<;>cases xs[k].B==b<;>cases xs[k].Q==p<;>rfl
  ·have he:k=xs.length:=by omega
   subst he
   rw[z6];simp
theorem zHO(n:Nat)(xs:List Link)(b p:Int)(h:xs.length≤1048600)(hn:xs.length<n):zE6 n xs b p=some (xs.any (ZU b p)):=by
 unfold zE6
 rw[show Jb n n xs b p 0= _ from zFt n xs b p h n 0 (by omega) (by omega),List.drop_zero]
 cases xs.any (ZU b p)<;>rfl
theorem zEK(n:Nat)(x:Net)(b p:Int)(h:x.Ls.length≤1048600):∀(m k c:Nat),k≤x.Ls.length→x.Ls.length<m+k→c≤2*k→ZL n m x b p k c=some (.inl ((c+JA (JS b p) (x.Ls.drop k):Nat):Int))
 |0,k,c,h1,h2,h3=>by omega
 | m + 1,k,c,h1,h2,h3 => by
  rw[ZL]
  by_cases hk:k<x.Ls.length
  ·have ih:=fun c' h3'=>zEK n x b p h m (k+1) c' (by omega) (by omega) h3'
   have hw:∀z:Nat,z≤4194304→wI ((z:Int)+1)=((z+1:Nat):Int):=fun z hz=>zHm (by omega)
   rw[qU hk,cQ,zK hk,bQ,List.drop_eq_getElem_cons hk,JA]
   simp only[Ye,hw k (by omega),hw c (by omega)]
   have hw2:=hw (c+1) (by omega)
   simp only[hw2]
   unfold JS
   generalize (x.Ls[k].A==b)=qA
   generalize (x.Ls[k].P==p)=qP
   generalize (x.Ls[k].B==b)=qB
   generalize (x.Ls[k].Q==p)=qQ
   have z0:=ih c (by omega)
   have z1:=ih (c+1) (by omega)
   have z2:=ih (c+1+1) (by omega)
   unfold JS at z0 z1 z2
   cases qA<;>cases qP<;>cases qB<;>cases qQ<;>simp only[cQ,fQ,Bool.and_true,Bool.and_false,Bool.true_and,Bool.false_and,Nat.zero_add,Nat.add_zero,z0,z1,z2]<;>simp only[Nat.add_assoc,Nat.reduceAdd]
  ·have he:k=x.Ls.length:=by omega
   subst he
   rw[z6];simp[JA]
theorem JV(n:Nat)(x:Net)(b p:Int)(h:x.Ls.length≤1048600)(hn:x.Ls.length<n):Qo n x b p=some ((JA (JS b p) x.Ls:Nat):Int):=by
 unfold Qo
 rw[show ZL n n x b p 0 0= _ from zEK n x b p h n 0 0 (by omega) (by omega) (by omega),List.drop_zero,Nat.zero_add]
 rfl
theorem zMg{b p:Int} :∀ {xs:List Link},(JA (JS b p) xs=0↔xs.any (ZU b p)=false)
 |[]=>by simp[JA]
 | l :: xs => by
  have ih:=zMg (b:=b) (p:=p) (xs:=xs)
  have h:=zGM (b:=b) (p:=p) (l:=l)
  rw[JA,List.any_cons,Bool.or_eq_false_iff,←ih]
  cases hu:ZU b p l with
  |true=>have:=h.1 hu;constructor<;>intro h'<;>first|omega|(exact absurd h'.1 (by simp))
  | false =>
   have:JS b p l=0:=by
    refine Classical.byContradiction fun hc=>?_
    have:=h.2 (by omega)
    rw[hu]at this;cases this
   constructor
   ·intro h';exact⟨rfl,by omega⟩
   ·intro h';omega
theorem JF{α:Type}{L:Nat→Int→Option (α⊕Bool)}{N:Nat}{P:Nat→Prop}(hs:∀m (k:Nat),k<N→(P k∧L (m+1) (k:Int)=L m ((k+1:Nat):Int))∨(¬P k∧L (m+1) (k:Int)=some (.inr false)))(he:∀m,∃a,L (m+1) (N:Int)=some (.inl a)):
  ∀(m k:Nat),k≤N→N<m+k→(∃a,L m (k:Int)=some (.inl a)∧∀j,k≤j→j<N→P j)∨(L m (k:Int)=some (.inr false)∧¬∀j,k≤j→j<N→P j)
 |0,k,h1,h2=>by omega
 | m + 1,k,h1,h2 => by
  by_cases hk:k<N
  ·rcases hs m k hk with⟨hp,e⟩|⟨hp,e⟩
   ·rcases JF hs he m (k+1) (by omega) (by omega)with⟨a,h3,h4⟩|⟨h3,h4⟩
    ·refine .inl ⟨a,e.trans h3,fun j hj hj2=>?_⟩
     by_cases hjk:j=k
     ·subst hjk;exact hp
     ·exact h4 j (by omega) hj2
    ·exact .inr ⟨e.trans h3,fun h=>h4 fun j hj hj2=>h j (by omega) hj2⟩
   ·exact .inr ⟨e,fun h=>hp (h k (Nat.le_refl _) hk)⟩
  ·have:k=N:=by omega
   subst this
   obtain⟨a,ha⟩:=he m
   exact .inl ⟨a,ha,fun j hj hj2=>by omega⟩
def BOk(n:Nat)(x:Net)(k:Nat):Prop:=∀hk:k<x.Bs.length,zg n x.Bs[k]=some true∧(∀j (hj:j<k),(x.Bs[j]'(by omega)).Id≠x.Bs[k].Id)∧∀p (hp:p<x.Bs[k].Ps.length),x.Bs[k].Ps[p].Has=true→x.Ls.any (ZU k p)=true
theorem zNG{x:Net}(wx:x.wf){k:Nat}(hk:k<x.Bs.length):x.Bs[k].wf:=wx.1.2 _ (List.getElem_mem hk)
def ZQ(x:Net)(b p:Int):Option Pt:=(idx x.Bs b).bind fun v=>idx v.Ps p
theorem zER{α:Type}{xs:List α}{i:Int} :(∃v,idx xs i=some v)↔0≤i∧i<xs.length:=by
 constructor
 ·rintro⟨v,hv⟩;exact zBh hv
 ·intro h
  obtain⟨j,rfl⟩:=Int.eq_ofNat_of_zero_le h.1
  exact⟨_,zK (by omega)⟩
theorem zFV{α:Type}{xs:List α}{i:Int}(h:¬(0≤i∧i<xs.length)):idx xs i=none:=by
 cases hc:idx xs i with
 |none=>rfl
 |some v=>exact absurd (zBh hc) h
def LOk(x:Net)(l:Link):Prop:=l.A≠l.B∧∃p q,ZQ x l.A l.P=some p∧ZQ x l.B l.Q=some q∧p.Up=q.Up
theorem Y3{x:Net}{b p:Int}{q:Pt}(h:ZQ x b p=some q):∃v,idx x.Bs b=some v∧idx v.Ps p=some q:=by
 unfold ZQ at h
 exact bind_some h
def zS6{α:Type}(xs:List α)(k:Nat)(ys:List (Option α)):Prop:=ys.length=xs.length∧∀j,k≤j→ys[j]? =(xs[j]?).map some
theorem zS6.start{α:Type}(xs:List α):zS6 xs 0 (xs.map some):=⟨by simp,fun j _=>by simp⟩
theorem VtB.sz{v:zm}(h:VtB v):v.sz≤1006:=by
 have h1:=h.2.2.1
 have h2:=h.2.2.2.1
 show v.Rows.length+v.Pv.length≤1006
 omega
theorem zMW{α β:Type}{L:Nat→Int→List α→Option (List α⊕β)}{f:α→Option α}(xs:List α)(hx:xs.length≤268435455)(hf:∀v∈xs,f v=some v)
  (h:∀m k acc,L (m+1) k acc=bif decide (k<(xs.length:Int))then(idx xs k).bind fun v=>(f v).bind fun r=>bif decide (acc.length+ [r].length≤268435456)then L m (wI (k+1)) (acc++[r])else none else some (.inl acc)):∀(m k:Nat),k≤xs.length→xs.length<m+k→L m k (xs.take k)=some (.inl xs)
 |0,k,h1,h2=>by omega
 | m + 1,k,h1,h2 => by
  rw[h]
  by_cases hk:k<xs.length
  ·rw[qU hk,cQ,zK hk,bQ,hf _ (List.getElem_mem hk),bQ,tQ (by simp;omega),cQ,zHm (by omega),show xs.take k++[xs[k]]=xs.take (k+1) by rw[List.take_add_one,List.getElem?_eq_getElem hk];rfl]
   exact zMW xs hx hf h m (k+1) (by omega) (by omega)
  ·have he:k=xs.length:=by omega
   subst he
   rw[z6,fQ,List.take_length]
theorem zDL(n:Nat)(x:Net)(h:x.sz≤268435455)(hn:x.sz<n):Js n x=some x:=by
 have hs:(x.Bs.length+Ju zA.sz x.Bs)+x.Ls.length+x.Said.length=x.sz:=rfl
 have:=zMW (L:=fun m k acc=>Q5 n m x k acc) (f:=YS n) x.Bs (by omega) (fun v hv=>by have:=zE1 (sz:=zA.sz) hv;exact Yw n v (by omega)) (fun m k acc=>by rw[Q5]) n 0 (by omega) (by omega)
 unfold Js
 rw[tQ (by simp;omega),tQ (by simp;omega),cQ,cQ,show Q5 n n x 0 []= _ from this]
 rfl
theorem zDJ(n:Nat)(x:Net)(h:x.sz≤268435455)(hn:x.sz<n):zBu n x=some x:=by
 have hs:(x.Bs.length+Ju zA.sz x.Bs)+x.Ls.length+x.Said.length=x.sz:=rfl
 have:=zMW (L:=fun m k acc=>zAc n m x k acc) (f:=YC n) x.Bs (by omega) (fun v hv=>by have:=zE1 (sz:=zA.sz) hv;exact Qk n v (by omega)) (fun m k acc=>by rw[zAc]) n 0 (by omega) (by omega)
 unfold zBu
 rw[tQ (by simp;omega),tQ (by simp;omega),cQ,cQ,show zAc n n x 0 []= _ from this]
 rfl
theorem zCs(n:Nat)(v:Vec)(h:qK n v=some true):v.wf:=by
 unfold qK at h
 simp only[zV,bQ]at h
 cases h1:(decide (1≤v.Root)&&decide (v.Root≤99))with
 |false=>rw[h1]at h;cases h
 | true =>
  cases h2:(decide (0≤v.Co)&&decide (v.Co≤100000))with
  |false=>rw[h1,h2]at h;cases h
  | true =>
   cases h3:(decide (0≤v.Hops)&&decide (v.Hops≤10))with
   |false=>rw[h1,h2,h3]at h;cases h
   | true =>
    cases h4:(decide (1≤v.Bridge)&&decide (v.Bridge≤99))with
    |false=>rw[h1,h2,h3,h4]at h;cases h
    |true=>
     rw[h1,h2,h3,h4]at h
     simp only[cQ,Option.some.injEq,Bool.and_eq_true,decide_eq_true_eq]at h h1 h2 h3 h4
     exact⟨zk (by omega) (by omega),zk (by omega) (by omega),zk (by omega) (by omega),zk (by omega) (by omega),zk (by omega) (by omega),trivial⟩
theorem zJj(n:Nat)(x:zA)(p:Int)(u:Vec)(wx:x.wf)(hx:x.sz≤1048576)(hn:1048577<n):∃y:zA,Zm n x p u=some y∧YL n x p u=some y∧y.sz≤x.sz∧y.wf:=by
 have hs:x.Name.size+x.Ps.length+x.F.length+x.V.sz=x.sz:=rfl
 obtain⟨b,h1,h2⟩:=Z8 n x wx (by omega) (by omega)
 unfold Zm YL
 rw[Yw n x (by omega),Qk n x (by omega),bQ,bQ,zAK n x p b h1 (by omega),zBY n x p b h2 (by omega),bQ,bQ]
 cases hc:(b&&(decide (0≤p)&&decide (p<x.Ps.length)))with
 |false=>exact⟨x,rfl,rfl,Nat.le_refl _,wx⟩
 | true =>
  simp only[Bool.and_eq_true,decide_eq_true_eq]at hc
  obtain⟨rfl,q0,q1⟩:=hc
  obtain⟨k,rfl⟩:=Int.eq_ofNat_of_zero_le q0
  have hk:k<x.Ps.length:=by omega
  simp only[nQ,fQ,cQ]
  rw[zK hk,bQ,bQ]
  obtain⟨c,hc⟩:=zB9 n u
  rw[zCj,hc]
  simp only[bQ]
  cases hu:x.Ps[k].Up with
  |false=>simp only[Bool.not_false,cQ,fQ];exact⟨x,rfl,rfl,Nat.le_refl _,wx⟩
  | true =>
   cases c with
   |false=>simp only[Bool.not_false,nQ,cQ,fQ];exact⟨x,rfl,rfl,Nat.le_refl _,wx⟩
   | true =>
    have wu:=zCs n u hc
    obtain⟨zs,v,bb,e1,e2,e3,e4,e5,e6,_⟩:=zFl n x hn hx h1 (x.Ps.set k ⟨true,x.Ps[k].Co,true,u⟩) (by simp) x.F (Nat.le_refl _) x.Tk
    have hi:idx (x.Ps.set k ⟨x.Ps[k].Up,x.Ps[k].Co,true,x.Ps[k].Hd⟩) (k:Int)=some ⟨x.Ps[k].Up,x.Ps[k].Co,true,x.Ps[k].Hd⟩:=by
     rw[zK (by simpa using hk)];simp
    simp only[zAa,nQ,fQ,cQ,bQ,zK hk,Int.toNat_natCast,hi,List.set_set,hu,e1,e2]
    have hi':idx (x.Ps.set k ⟨true,x.Ps[k].Co,true,x.Ps[k].Hd⟩) (k:Int)=some ⟨true,x.Ps[k].Co,true,x.Ps[k].Hd⟩:=by
     rw[zK (by simpa using hk)];simp
    simp only[hi',bQ,e1,e2]
    have wv:qx v:=zk (by omega) (by omega)
    obtain⟨w1,w2,w3,w4,w5,w6,w7,w8,w9,w10,w11,w12⟩:=wx
    refine⟨_,rfl,rfl,?_,w1,w2,zDa w3 ⟨(w3.2 _ (List.getElem_mem hk)).1,wu.1,wu.2.1,wu.2.2.1,wu.2.2.2.1,wu.2.2.2.2.1,trivial⟩,zL7 w4 e4 e3,w5,w6,w7,w8,w9,w10,wv,trivial⟩
    simp only[zA.sz,List.length_set]at hs⊢
    omega
theorem zNg{α:Type}{sz:α→Nat} :∀(xs:List α) (k:Nat) (hk:k<xs.length) (v:α),sz v≤sz xs[k]→Ju sz (xs.set k v)≤Ju sz xs
 |[],k,hk,v,h=>by simp at hk
 |x::xs,0,hk,v,h=>by
  simp only[List.set_cons_zero,Ju]
  have:sz v≤sz x:=h
  omega
 |x::xs,k+1,hk,v,h=>by
  simp only[List.set_cons_succ,Ju]
  have:=zNg xs k (by simpa using hk) v (by simpa using h)
  omega
def HB(x:Net)(ys:List zA):Prop:=ys.length=x.Bs.length∧(∀v∈ys,v.wf)∧Ju zA.sz ys≤Ju zA.sz x.Bs
theorem HB.self{x:Net}(wx:x.wf):HB x x.Bs:=⟨rfl,wx.1.2,Nat.le_refl _⟩
theorem zNS(n:Nat){x:Net}{ys:List zA}(hb:HB x ys)(hx:x.sz≤1048576)(hn:1048577<n){i:Int}{a:zA}(hi:idx x.Bs i=some a)(p:Int)(u:Vec):∃v y,idx ys i=some v∧Zm n v p u=some y∧YL n v p u=some y∧HB x (ys.set i.toNat y):=by
 have hs:(x.Bs.length+Ju zA.sz x.Bs)+x.Ls.length+x.Said.length=x.sz:=rfl
 obtain⟨b1,b2,b3⟩:=hb
 obtain⟨q0,q1⟩:=zBh hi
 obtain⟨k,rfl⟩:=Int.eq_ofNat_of_zero_le q0
 have hk:k<ys.length:=by omega
 have hsz:=zE1 (sz:=zA.sz) (List.getElem_mem hk)
 obtain⟨y,e1,e2,e3,e4⟩:=zJj n ys[k] p u (b2 _ (List.getElem_mem hk)) (by omega) hn
 refine⟨ys[k],y,zK hk,e1,e2,by rw[List.length_set];exact b1,fun v hv=>?_,?_⟩
 ·rcases List.mem_or_eq_of_mem_set hv with h|rfl
  ·exact b2 v h
  ·exact e4
 ·have:=zNg (sz:=zA.sz) ys k hk y e3
  simp only[Int.toNat_natCast]
  omega
theorem zCJ(n:Nat)(x:Net)(wx:x.wf)(hx:x.sz≤1048576)(hn:1048577<n):∀(m k:Nat) (ys:List zA),HB x ys→k≤x.Ls.length→x.Ls.length<m+k→∃zs,HB x zs∧YR n m x k ys x.Ls []=some (.inl (zs,x.Ls,[]))∧zAq n m x k ys x.Ls []=some (.inl (zs,x.Ls,[]))
 |0,k,ys,hb,h1,h2=>by omega
 | m + 1,k,ys,hb,h1,h2 => by
  have hs:(x.Bs.length+Ju zA.sz x.Bs)+x.Ls.length+x.Said.length=x.sz:=rfl
  rw[YR,zAq]
  by_cases hk:k<x.Ls.length
  ·obtain⟨b,u1,u2⟩:=JU n x k wx (by omega)
   rw[qU hk,cQ,cQ,u1,u2,bQ,zK hk,bQ,bQ,vQ k]
   cases b with
   |false=>exact zCJ n x wx hx hn m (k+1) ys hb (by omega) (by omega)
   |true=>
    obtain⟨l,a,c,p,q,hl,ha,_,_,hc,_,_⟩:=zA5 n x k u1
    rw[zK hk]at hl
    obtain rfl:=Option.some.inj hl
    have pa:=zHi hx (zJZ ha)
    have pc:=zHi hx (zJZ hc)
    have qa:a.Name.size+a.Ps.length+a.F.length+a.V.sz=a.sz:=rfl
    have qc:c.Name.size+c.Ps.length+c.F.length+c.V.sz=c.sz:=rfl
    obtain⟨s1,f1⟩:=J3 n c.Id c.Ps x.Ls[k].Q (by omega) (by omega)
    obtain⟨s2,f2⟩:=J3 n a.Id a.Ps x.Ls[k].P (by omega) (by omega)
    obtain⟨v1,y1,i1,g1,g1',hb1⟩:=zNS n hb hx hn ha x.Ls[k].P s1
    obtain⟨v2,y2,i2,g2,g2',hb2⟩:=zNS n hb1 hx hn hc x.Ls[k].Q s2
    obtain⟨zs,r1,r2,r3⟩:=zCJ n x wx hx hn m (k+1) _ hb2 (by omega) (by omega)
    refine⟨zs,r1,?_,?_⟩
    ·simp only[cQ,fQ,QV,YT,zK hk,bQ,ha,hc,f1,f2,i1,g1,i2,g2,r2]
    ·simp only[cQ,Yk,QF,zB5,bQ,ha,hc,f1,f2,i1,g1',i2,g2',r3]
  ·have he:k=x.Ls.length:=by omega
   subst he
   rw[z6]
   exact⟨ys,hb,rfl,rfl⟩
def Big(x:Net):Prop:=x.Bs.length≤1048576∧(∀a∈x.Bs,a.sz≤1048576)∧x.Ls.length≤1048576∧x.Said.length≤1048576
theorem zFT(n:Nat)(x:Net)(wx:x.wf)(h:Big x)(hn:1048700<n)(m k:Nat)(hk:k<x.Bs.length):(BOk n x k∧zz n (m+1) x k=zz n m x ((k+1:Nat):Int))∨(¬BOk n x k∧zz n (m+1) x k=some (.inr false)):=by
 have⟨hl1,hl2,hl3,hl4⟩:=h
 have hps:=hl2 _ (List.getElem_mem hk)
 have hs2:x.Bs[k].Name.size+x.Bs[k].Ps.length+x.Bs[k].F.length+x.Bs[k].V.sz=x.Bs[k].sz:=rfl
 obtain⟨b,hb,_⟩:=Z8 n x.Bs[k] (zNG wx hk) (by omega) (by omega)
 rw[zz,qU hk,cQ,zK hk,bQ,hb,bQ]
 cases b with
 |false=>exact .inr ⟨fun hc=>absurd ((hc hk).1.symm.trans hb) (by simp),rfl⟩
 | true =>
  simp only[nQ,fQ]
  have h6:=JF (L:=fun m j=>ZG n m x k j) (N:=k) (P:=fun j=>∀hj:j<k,(x.Bs[j]'(by omega)).Id≠x.Bs[k].Id) (fun m j hj=>by
   simp only[ZG]
   rw[qU hj,cQ,zK (show j<x.Bs.length by omega),bQ,zK hk,bQ,vQ j]
   by_cases he:(x.Bs[j]'(by omega)).Id=x.Bs[k].Id
   ·exact .inr ⟨fun hc=>hc hj he,by rw[show((x.Bs[j]'(by omega)).Id==x.Bs[k].Id)=true from by simpa using he];rfl⟩
   ·exact .inl ⟨fun _=>he,by rw[show((x.Bs[j]'(by omega)).Id==x.Bs[k].Id)=false from by simpa using he];rfl⟩) (fun m=>⟨_,by simp only[ZG];rw[z6];rfl⟩) n 0 (by omega) (by omega)
  rcases h6 with⟨_,e6,p6⟩|⟨e6,p6⟩
  ·rw[show ZG n n x k 0= _ from e6,bQ]
   simp only[Y8]
   have h5:=JF (L:=fun m j=>qv n m x k j) (N:=x.Bs[k].Ps.length) (P:=fun j=>∀hp:j<x.Bs[k].Ps.length,x.Bs[k].Ps[j].Has=true→x.Ls.any (ZU k j)=true) (fun m j hj=>by
    simp only[qv]
    rw[zK hk,bQ,qU hj,cQ,bQ,zK hj,bQ,vQ j]
    cases hh:x.Bs[k].Ps[j].Has with
    |false=>exact .inl ⟨fun _ hc=>absurd (hh.symm.trans hc) (by simp),rfl⟩
    | true =>
     rw[cQ,JV n x k j (by omega) (by omega),bQ]
     cases hu:x.Ls.any (ZU k j)with
     |false=>exact .inr ⟨fun hc=>absurd (hc hj hh) (by simp),by rw[zMg.2 hu];rfl⟩
     |true=>
      have:JA (JS k j) x.Ls≠0:=fun e=>by rw[zMg.1 e]at hu;cases hu
      exact .inl ⟨fun _ _=>rfl,by rw[show(((JA (JS k j) x.Ls:Nat):Int)==0)=false from by simpa using this];rfl⟩) (fun m=>⟨_,by simp only[qv];rw[zK hk,bQ,z6];rfl⟩) n 0 (by omega) (by omega)
   rcases h5 with⟨a,e5,p5⟩|⟨e5,p5⟩
   ·rw[show qv n n x k 0= _ from e5,bQ]
    refine .inl ⟨fun _=>⟨hb,fun j hj=>p6 j (by omega) hj hj,fun p hp=>p5 p (by omega) hp hp⟩,?_⟩
    simp only[Y9,vQ k]
   ·rw[show qv n n x k 0= _ from e5,bQ]
    exact .inr ⟨fun hc=>p5 fun j _ hj2 _=>(hc hk).2.2 j hj2,rfl⟩
  ·rw[show ZG n n x k 0= _ from e6,bQ]
   exact .inr ⟨fun hc=>p6 fun j _ hj2 _=>(hc hk).2.1 j hj2,rfl⟩
theorem zHf(n:Nat)(x:Net)(wx:x.wf)(h:Big x)(hn:1048700<n)(m k:Nat)(hk:k<x.Bs.length):(BOk n x k∧Qi n (m+1) x k=Qi n m x ((k+1:Nat):Int))∨(¬BOk n x k∧Qi n (m+1) x k=some (.inr false)):=by
 have⟨hl1,hl2,hl3,hl4⟩:=h
 have hps:=hl2 _ (List.getElem_mem hk)
 have hs2:x.Bs[k].Name.size+x.Bs[k].Ps.length+x.Bs[k].F.length+x.Bs[k].V.sz=x.Bs[k].sz:=rfl
 obtain⟨b,hb,hb2⟩:=Z8 n x.Bs[k] (zNG wx hk) (by omega) (by omega)
 have hg:(decide ((0:Int)≤0)&&(decide ((0:Int)≤(k:Int))&&decide ((k:Int)≤(x.Bs.length:Int))))=true:=by
  rw[tQ (by omega),tQ (by omega),tQ (by omega)];rfl
 rw[Qi,qU hk,cQ,zK hk,bQ,hb2,bQ]
 cases b with
 |false=>exact .inr ⟨fun hc=>absurd ((hc hk).1.symm.trans hb) (by simp),rfl⟩
 | true =>
  simp only[nQ,fQ,hg,cQ]
  have ht:(x.Bs.drop ((0:Int)).toNat).take (((k:Int)).toNat-((0:Int)).toNat)=x.Bs.take k:=by simp
  have hl:(x.Bs.take k).length=k:=by simp;omega
  have h8:=JF (L:=fun m j=>Jo n m x.Bs[k] x k j) (N:=k) (P:=fun j=>∀hj:j<k,(x.Bs[j]'(by omega)).Id≠x.Bs[k].Id) (fun m j hj=>by
   simp only[Jo,ht]
   rw[hl,qU hj,cQ,zK (show j<(x.Bs.take k).length by omega),bQ,List.getElem_take,vQ j]
   by_cases he:(x.Bs[j]'(by omega)).Id=x.Bs[k].Id
   ·exact .inr ⟨fun hc=>hc hj he,by rw[show((x.Bs[j]'(by omega)).Id==x.Bs[k].Id)=true from by simpa using he];rfl⟩
   ·exact .inl ⟨fun _=>he,by rw[show((x.Bs[j]'(by omega)).Id==x.Bs[k].Id)=false from by simpa using he];rfl⟩) (fun m=>⟨_,by simp only[Jo,ht];rw[hl,z6];rfl⟩) n 0 (by omega) (by omega)
  rcases h8 with⟨a1,e8,p8⟩|⟨e8,p8⟩
  ·rw[show Jo n n x.Bs[k] x k 0= _ from e8,bQ]
   simp only[zH9]
   have h7:=JF (L:=fun m j=>Yr n m x.Bs[k] x k j) (N:=x.Bs[k].Ps.length) (P:=fun j=>∀hp:j<x.Bs[k].Ps.length,x.Bs[k].Ps[j].Has=true→x.Ls.any (ZU k j)=true) (fun m j hj=>by
    simp only[Yr]
    rw[qU hj,cQ,zK hj,bQ,vQ j]
    cases hh:x.Bs[k].Ps[j].Has with
    |false=>exact .inl ⟨fun _ hc=>absurd (hh.symm.trans hc) (by simp),rfl⟩
    |true=>
     rw[cQ,zHO n x.Ls k j (by omega) (by omega),bQ]
     cases hu:x.Ls.any (ZU k j)with
     |false=>exact .inr ⟨fun hc=>absurd (hc hj hh) (by simp),rfl⟩
     |true=>exact .inl ⟨fun _ _=>rfl,rfl⟩) (fun m=>⟨_,by simp only[Yr];rw[z6];rfl⟩) n 0 (by omega) (by omega)
   rcases h7 with⟨a,e7,p7⟩|⟨e7,p7⟩
   ·rw[show Yr n n x.Bs[k] x k 0= _ from e7,bQ]
    refine .inl ⟨fun _=>⟨hb,fun j hj=>p8 j (by omega) hj hj,fun p hp=>p7 p (by omega) hp hp⟩,?_⟩
    simp only[zIA,vQ k]
   ·rw[show Yr n n x.Bs[k] x k 0= _ from e7,bQ]
    exact .inr ⟨fun hc=>p7 fun j _ hj2 _=>(hc hk).2.2 j hj2,rfl⟩
  ·rw[show Jo n n x.Bs[k] x k 0= _ from e8,bQ]
   exact .inr ⟨fun hc=>p8 fun j _ hj2 _=>(hc hk).2.1 j hj2,rfl⟩
theorem zG0(n:Nat)(x:Net)(wx:x.wf)(h:Big x)(hn:1048700<n):∃b,J4 n x=some b∧(b=true↔(∀k,k<x.Bs.length→BOk n x k)∧1≤x.Bs.length∧x.Bs.length≤6):=by
 have⟨hl1,hl2,hl3,hl4⟩:=h
 unfold J4
 rcases JF (L:=fun m k=>zz n m x k) (N:=x.Bs.length) (P:=BOk n x) (fun m k hk=>zFT n x wx h hn m k hk) (fun m=>⟨(),by simp only[zz];rw[z6];rfl⟩) n 0 (by omega) (by omega)with⟨a,e,p⟩|⟨e,p⟩
 ·rw[show zz n n x 0= _ from e,bQ]
  simp only[Y7,zV,bQ]
  refine⟨_,rfl,?_⟩
  rw[Bool.and_eq_true,decide_eq_true_eq,decide_eq_true_eq]
  exact⟨fun hc=>⟨fun k hk=>p k (by omega) hk,by omega,by omega⟩,fun hc=>⟨by omega,by omega⟩⟩
 ·rw[show zz n n x 0= _ from e,bQ]
  exact⟨false,rfl,⟨fun hc=>(by cases hc),fun hc=>absurd (fun k _ hk=>hc.1 k hk) p⟩⟩
theorem zFG(n:Nat)(x:Net)(h:Big x)(b p:Int):Zz n x b p=some (match ZQ x b p with|some q=>(q,true)|none=>(⟨false,0,false,⟨0,0,0,0,0⟩⟩,false)):=by
 have⟨hl1,hl2,hl3,hl4⟩:=h
 unfold Zz ZQ
 rw[qe,Z3 n b _ (show x.Bs.length≤1048600 by omega),bQ]
 by_cases hb:0≤b∧b<x.Bs.length
 ·obtain⟨v,hv⟩:=zER.2 hb
  have:=hl2 _ (List.mem_of_getElem? (zU hv).2)
  have hs2:v.Name.size+v.Ps.length+v.F.length+v.V.sz=v.sz:=rfl
  rw[tQ hb,hv]
  simp only[nQ,fQ,cQ,bQ,Z3 n p _ (show v.Ps.length≤1048600 by omega)]
  by_cases hp:0≤p∧p<v.Ps.length
  ·obtain⟨q,hq⟩:=zER.2 hp
   simp[hp,hq,hv]
  ·simp[hp,zFV hp]
 ·simp[hb,zFV hb]
theorem zFL(n:Nat)(x:Net)(h:Big x)(hn:1048700<n)(b p:Int):zBj n x b p=some (match ZQ x b p with|some q=>decide (JA (JS b p) x.Ls=1)|none=>false):=by
 have⟨hl1,hl2,hl3,hl4⟩:=h
 unfold zBj ZQ
 rw[Z3 n b _ (show x.Bs.length≤1048600 by omega),bQ]
 by_cases hb:0≤b∧b<x.Bs.length
 ·obtain⟨v,hv⟩:=zER.2 hb
  have:=hl2 _ (List.mem_of_getElem? (zU hv).2)
  have hs2:v.Name.size+v.Ps.length+v.F.length+v.V.sz=v.sz:=rfl
  rw[tQ hb,hv]
  simp only[cQ,bQ,Z3 n p _ (show v.Ps.length≤1048600 by omega)]
  by_cases hp:0≤p∧p<v.Ps.length
  ·obtain⟨q,hq⟩:=zER.2 hp
   rw[tQ hp,hq,cQ,JV n x b p (by omega) (by omega),bQ]
   by_cases h1:JA (JS b p) x.Ls=1
   ·simp[h1]
   ·have:((JA (JS b p) x.Ls:Nat):Int)≠1:=by omega
    simp[h1,this]
  ·simp[hp,zFV hp]
 ·simp[hb,zFV hb]
theorem zHj(n:Nat)(x:Net)(h:Big x)(hn:1048700<n)(m k:Nat)(hk:k<x.Ls.length):
  ((∀hk:k<x.Ls.length,LOk x x.Ls[k]∧JA (JS x.Ls[k].A x.Ls[k].P) x.Ls=1∧JA (JS x.Ls[k].B x.Ls[k].Q) x.Ls=1)∧ZZ n (m+1) x k=ZZ n m x ((k+1:Nat):Int))∨
  (¬(∀hk:k<x.Ls.length,LOk x x.Ls[k]∧JA (JS x.Ls[k].A x.Ls[k].P) x.Ls=1∧JA (JS x.Ls[k].B x.Ls[k].Q) x.Ls=1)∧ZZ n (m+1) x k=some (.inr false)):=by
 have⟨hl1,hl2,hl3,hl4⟩:=h
 rw[ZZ,qU hk,cQ,zK hk,bQ,zFL n x h hn,zFL n x h hn,vQ k]
 by_cases hab:x.Ls[k].A=x.Ls[k].B
 ·exact .inr ⟨fun hc=>(hc hk).1.1 (hab),by rw[show(x.Ls[k].A==x.Ls[k].B)=true from by simpa using hab];rfl⟩
 ·rw[show(x.Ls[k].A==x.Ls[k].B)=false from by simpa using hab]
  simp only[fQ,bQ]
  cases hp:ZQ x x.Ls[k].A x.Ls[k].P with
  |none=>exact .inr ⟨fun hc=>(by obtain⟨p,q,e,_⟩:=(hc hk).1.2;rw[hp]at e;cases e),rfl⟩
  | some p =>
   by_cases h1:JA (JS x.Ls[k].A x.Ls[k].P) x.Ls=1
   ·simp only[tQ h1,nQ,fQ]
    cases hq:ZQ x x.Ls[k].B x.Ls[k].Q with
    |none=>exact .inr ⟨fun hc=>(by obtain⟨p,q,_,e,_⟩:=(hc hk).1.2;rw[hq]at e;cases e),rfl⟩
    | some q =>
     by_cases h2:JA (JS x.Ls[k].B x.Ls[k].Q) x.Ls=1
     ·obtain⟨v,v1,v2⟩:=Y3 hp
      obtain⟨u,u1,u2⟩:=Y3 hq
      simp only[tQ h2,nQ,fQ,v1,v2,u1,u2,bQ]
      by_cases h3:p.Up=q.Up
      ·exact .inl ⟨fun _=>⟨⟨hab,p,q,hp,hq,h3⟩,h1,h2⟩,by rw[h3];simp⟩
      ·refine .inr ⟨fun hc=>?_,by rw[show(p.Up==q.Up)=false from by simpa using h3];rfl⟩
       obtain⟨p',q',e1,e2,e3⟩:=(hc hk).1.2
       rw[hp]at e1;rw[hq]at e2
       cases e1;cases e2;exact h3 e3
     ·exact .inr ⟨fun hc=>h2 (hc hk).2.2,by simp only[dQ h2];rfl⟩
   ·exact .inr ⟨fun hc=>h1 (hc hk).2.1,by simp only[dQ h1];rfl⟩
theorem zGz(n:Nat)(x:Net)(h:Big x)(hn:1048700<n)(m k:Nat)(hk:k<x.Ls.length):
  ((∀hk:k<x.Ls.length,k<9∧LOk x x.Ls[k]∧(x.Ls.take k).any (ZU x.Ls[k].A x.Ls[k].P)=false∧(x.Ls.take k).any (ZU x.Ls[k].B x.Ls[k].Q)=false)∧Zj n (m+1) x k=Zj n m x ((k+1:Nat):Int))∨
  (¬(∀hk:k<x.Ls.length,k<9∧LOk x x.Ls[k]∧(x.Ls.take k).any (ZU x.Ls[k].A x.Ls[k].P)=false∧(x.Ls.take k).any (ZU x.Ls[k].B x.Ls[k].Q)=false)∧Zj n (m+1) x k=some (.inr false)):=by
 have⟨hl1,hl2,hl3,hl4⟩:=h
 have hg:(decide ((0:Int)≤0)&&(decide ((0:Int)≤(k:Int))&&decide ((k:Int)≤(x.Ls.length:Int))))=true:=by
  rw[tQ (by omega),tQ (by omega),tQ (by omega)];rfl
 have ht:(x.Ls.drop ((0:Int)).toNat).take (((k:Int)).toNat-((0:Int)).toNat)=x.Ls.take k:=by simp
 have hlen:(x.Ls.take k).length≤1048600:=by simp;omega
 rw[Zj,qU hk,cQ,zK hk,bQ,zFG n x h,bQ,zFG n x h,bQ]
 simp only[hg,cQ,ht,zHO n (x.Ls.take k) _ _ hlen (by omega),bQ,vQ k]
 by_cases h9:k<9
 ·rw[dQ (show¬((k:Nat):Int)≥9 by omega),fQ]
  cases hp:ZQ x x.Ls[k].A x.Ls[k].P with
  |none=>exact .inr ⟨fun hc=>(by obtain⟨p,q,e,_⟩:=(hc hk).2.1.2;rw[hp]at e;cases e),rfl⟩
  | some p =>
   cases hq:ZQ x x.Ls[k].B x.Ls[k].Q with
   |none=>exact .inr ⟨fun hc=>(by obtain⟨p,q,_,e,_⟩:=(hc hk).2.1.2;rw[hq]at e;cases e),rfl⟩
   | some q =>
    simp only[nQ,fQ]
    by_cases hab:x.Ls[k].A=x.Ls[k].B
    ·exact .inr ⟨fun hc=>(hc hk).2.1.1 (hab),by rw[show(x.Ls[k].A==x.Ls[k].B)=true from by simpa using hab];rfl⟩
    ·rw[show(x.Ls[k].A==x.Ls[k].B)=false from by simpa using hab,fQ]
     by_cases h3:p.Up=q.Up
     ·rw[show(!(p.Up==q.Up))=false from by simp[h3],fQ]
      cases h1:(x.Ls.take k).any (ZU x.Ls[k].A x.Ls[k].P)with
      |true=>exact .inr ⟨fun hc=>(by have:=(hc hk).2.2.1;rw[h1]at this;cases this),rfl⟩
      |false=>
       cases h2:(x.Ls.take k).any (ZU x.Ls[k].B x.Ls[k].Q)with
       |true=>exact .inr ⟨fun hc=>(by have:=(hc hk).2.2.2;rw[h2]at this;cases this),rfl⟩
       |false=>exact .inl ⟨fun _=>⟨h9,⟨hab,p,q,hp,hq,h3⟩,h1,h2⟩,rfl⟩
     ·refine .inr ⟨fun hc=>?_,by rw[show(p.Up==q.Up)=false from by simpa using h3];rfl⟩
      obtain⟨p',q',e1,e2,e3⟩:=(hc hk).2.1.2
      rw[hp]at e1;rw[hq]at e2
      cases e1;cases e2;exact h3 e3
 ·exact .inr ⟨fun hc=>h9 (hc hk).1,by rw[tQ (show((k:Nat):Int)≥9 by omega)];rfl⟩
def zPU(n:Nat)(x:Net):Prop:=(∀k,k<x.Bs.length→BOk n x k)∧(1≤x.Bs.length∧x.Bs.length≤6)∧x.Ls.length≤9∧x.Said.length≤40∧∀k (hk:k<x.Ls.length),LOk x x.Ls[k]∧JA (JS x.Ls[k].A x.Ls[k].P) x.Ls=1∧JA (JS x.Ls[k].B x.Ls[k].Q) x.Ls=1
theorem zA3(n:Nat)(x:zA)(hn:x.Ps.length<n)(h1:1≤x.Ps.length)(h2:x.Ps.length≤6)(h3:1≤x.Id)(h4:x.Id≤99)(h5:x.Name.size≤10)(h6:Zr n x.F=some true)(h7:qN n x.V (x.Ps.length:Int)=some true)(h8:0≤x.Tk∧x.Tk≤1000000)(h9:0≤x.Pa∧x.Pa≤1000000)(h10:0≤x.Wo∧x.Wo≤1000000)(h11:0≤x.Dr∧x.Dr≤1000000)(h12:0≤x.Ve∧x.Ve≤1000000)(h13:∀j (hj:j<x.Ps.length),qZ n x.Ps[j]=some true):zg n x=some true:=by
 have two:∀ {a b c:Int},a≤b→b≤c→(decide (a≤b)&&decide (b≤c))=true:=fun h h'=>by rw[tQ h,tQ h'];rfl
 unfold zg
 rcases JF (L:=fun m k=>qJ n m x k) (N:=x.Ps.length) (P:=fun k=>∀hk:k<x.Ps.length,qZ n x.Ps[k]=some true) (fun m k hk=>by
  simp only[qJ]
  rw[qU hk,cQ,zK hk,bQ,h13 k hk,bQ,vQ k]
  exact .inl ⟨fun _=>h13 k hk,rfl⟩) (fun m=>⟨(),by simp only[qJ];rw[z6];rfl⟩) n 0 (by omega) (by omega)with⟨a,e,_⟩|⟨_,p⟩
 ·rw[show qJ n n x 0= _ from e]
  simp only[bQ,YE,JQ,zV,two h3 h4,two h8.1 h8.2,two h9.1 h9.2,two h10.1 h10.2,two h11.1 h11.2,two h12.1 h12.2,two (show(1:Int)≤(x.Ps.length:Int) by omega) (show(x.Ps.length:Int)≤6 by omega),tQ (show(x.Name.size:Int)≤10 by omega),h6,h7,cQ]
 ·exact absurd (fun j _ _ hj=>h13 j hj) p
def dnP:Pt:=⟨false,1,false,⟨0,0,0,0,0⟩⟩
def upP:Pt:=⟨true,1,false,⟨0,0,0,0,0⟩⟩
def psK(p k:Nat):List Pt:=List.replicate k upP++List.replicate (p-k) dnP
theorem zBv{p k:Nat}(h:k≤p):(psK p k).length=p:=by simp[psK];omega
theorem zG5{p k j:Nat}(hj:j<(psK p k).length):(psK p k)[j]=if j<k then upP else dnP:=by
 unfold psK at hj⊢
 by_cases h:j<k
 ·rw[List.getElem_append_left (by simpa using h),if_pos h];simp
 ·rw[List.getElem_append_right (by simpa using h),if_neg h];simp
theorem zSv{p k:Nat}(h:k<p):(psK p k).set k upP=psK p (k+1):=by
 refine List.ext_getElem (by rw[List.length_set,zBv (by omega),zBv (by omega)]) fun j h1 h2=>?_
 rw[List.length_set]at h1
 rw[List.getElem_set,zG5,zG5]
 by_cases hj:k=j
 ·subst hj;rw[if_pos rfl,if_pos (by omega)]
 ·rw[if_neg hj]
  by_cases hk:j<k
  ·rw[if_pos hk,if_pos (by omega)]
  ·rw[if_neg hk,if_neg (by omega)]
def nbB(z:Int)(vt:zm)(ps:List Pt)(v:Int):zA:=⟨z,⟨#[]⟩,ps,[],vt,0,0,0,0,v⟩
def noB:zA:=⟨0,⟨#[]⟩,[],[],⟨[],[]⟩,0,0,0,0,0⟩
theorem zQF{z:Int}{vt:zm}{ps:List Pt}{v:Int} :(nbB z vt ps v).sz=ps.length+vt.sz:=by
 show 0+ps.length+0+vt.sz= _
 omega
theorem zOW{z:Int}{vt:zm}{p k:Nat}{v:Int}(hz:1≤z∧z≤99)(h1:1≤p)(h6:p≤6)(hk:k≤p)(hv:qN 1048800 vt p=some true)(v0:0≤v)(v1:v≤1000000):zg 1048800 (nbB z vt (psK p k) v)=some true:=by
 have hl:=zBv hk
 have d0:(0:Int)≤0∧(0:Int)≤1000000:=by decide
 refine zA3 1048800 (nbB z vt (psK p k) v) (by show(psK p k).length<_;omega) (by show 1≤(psK p k).length;omega) (by show(psK p k).length≤6;omega) hz.1 hz.2 (Nat.zero_le 10) (by kernel_rfl) (by show qN 1048800 vt ((psK p k).length:Int)= _;rw[hl];exact hv) d0 d0 d0 d0 ⟨v0,v1⟩ (fun j hj=>?_)
 have e:(nbB z vt (psK p k) v).Ps[j]=if j<k then upP else dnP:=zG5 hj
 rw[e]
 split<;>rfl
theorem zQG{z:Int}{vt:zm}{p k:Nat}{v:Int}(hz:1≤z∧z≤99)(h6:p≤6)(hk:k≤p)(wv:vt.wf)(v0:0≤v)(v1:v≤1000000):(nbB z vt (psK p k) v).wf:=by
 have hm:maxLen=9223372036854775807:=by decide
 have z0:qx 0:=zk (by omega) (by omega)
 have o1:qx 1:=zk (by omega) (by omega)
 have wz:qx z:=zk (by omega) (by omega)
 have wv':qx v:=zk (by omega) (by omega)
 refine⟨wz,Nat.zero_le _,⟨by show(psK p k).length≤maxLen;rw[zBv hk];omega,fun q hq=>?_⟩,⟨Nat.zero_le _,fun q hq=>by cases hq⟩,wv.1,wv.2.1,z0,z0,z0,z0,wv',trivial⟩
 obtain⟨j,hj,rfl⟩:=List.getElem_of_mem hq
 have e:(nbB z vt (psK p k) v).Ps[j]=if j<k then upP else dnP:=zG5 hj
 rw[e]
 split<;>exact⟨o1,z0,z0,z0,z0,z0,trivial⟩
theorem zSM:noB.wf:=by
 have z0:qx 0:=zk (by omega) (by omega)
 exact⟨z0,Nat.zero_le _,⟨Nat.zero_le _,fun q hq=>by cases hq⟩,⟨Nat.zero_le _,fun q hq=>by cases hq⟩,⟨Nat.zero_le _,fun q hq=>by cases hq⟩,⟨Nat.zero_le _,fun q hq=>by cases hq⟩,z0,z0,z0,z0,z0,trivial⟩
theorem zTh{z:Int}{vt:zm}{p k:Nat}{v:Int}(hz:1≤z∧z≤99)(h1:1≤p)(h6:p≤6)(hk:k<p)(hv:qN 1048800 vt p=some true)(hs:vt.sz≤10)(wv:vt.wf)(v0:0≤v)(v1:v≤1000000):∃v',0≤v'∧v'≤1000000∧YP 1048800 (nbB z vt (psK p k) v) k true=some (nbB z vt (psK p (k+1)) v')∧zAo 1048800 (nbB z vt (psK p k) v) k true=some (nbB z vt (psK p (k+1)) v'):=by
 have hl:(nbB z vt (psK p k) v).Ps.length=p:=zBv (by omega)
 have hsz:(nbB z vt (psK p k) v).sz≤16:=by rw[zQF,zBv (by omega)];omega
 have ok:=zOW (k:=k) hz h1 h6 (by omega) hv v0 v1
 have wx:=zQG (v:=v) hz h6 (show k≤p by omega) wv v0 v1
 obtain⟨b,e1,e2⟩:=Z8 1048800 _ wx (by omega) (by omega)
 rw[ok]at e1
 cases e1
 have hk':k<(nbB z vt (psK p k) v).Ps.length:=by omega
 have hg:(nbB z vt (psK p k) v).Ps[k].Co=1:=by
  have e:(nbB z vt (psK p k) v).Ps[k]=if k<k then upP else dnP:=zG5 hk'
  rw[e];split<;>rfl
 obtain⟨zs,v',bb,f1,f2,f3,f4,f5,f6,_⟩:=zFl 1048800 (nbB z vt (psK p k) v) (by omega) (by omega) ok ((nbB z vt (psK p k) v).Ps.set k upP) (by simp) [] (Nat.zero_le _) 0
 have hzs:zs=[]:=List.eq_nil_of_length_eq_zero (Nat.le_zero.1 f3)
 subst hzs
 have hset:(nbB z vt (psK p k) v).Ps.set k upP=psK p (k+1):=zSv hk
 rw[hset]at f1 f2
 have there:(true&&(decide ((0:Int)≤k)&&decide ((k:Int)<(nbB z vt (psK p k) v).Ps.length)))=true:=by
  rw[tQ (by omega),tQ (by omega)];rfl
 refine⟨v',f5,f6,?_,?_⟩
 ·unfold YP
  rw[Yw 1048800 _ (by omega),bQ,zAK 1048800 _ k true ok (by omega),bQ,there]
  simp only[nQ,fQ,zK hk',bQ,hg,Int.toNat_natCast]
  rw[show(⟨true,1,false,(⟨0,0,0,0,0⟩:Vec)⟩:Pt)=upP from rfl,hset]
  have:ZK 1048800 ⟨(nbB z vt (psK p k) v).Id,(nbB z vt (psK p k) v).Name,psK p (k+1),(nbB z vt (psK p k) v).F,(nbB z vt (psK p k) v).V,(nbB z vt (psK p k) v).Tk,(nbB z vt (psK p k) v).Pa,(nbB z vt (psK p k) v).Wo,(nbB z vt (psK p k) v).Dr,(nbB z vt (psK p k) v).Ve⟩=some (nbB z vt (psK p (k+1)) v'):=f1
  rw[this]
  rfl
 ·unfold zAo
  rw[Qk 1048800 _ (by omega),bQ,zBY 1048800 _ k true e2 (by omega),bQ,there]
  simp only[cQ,zK hk',bQ,hg,Int.toNat_natCast]
  rw[show(⟨true,1,false,(⟨0,0,0,0,0⟩:Vec)⟩:Pt)=upP from rfl,hset]
  have:Z9 1048800 ⟨(nbB z vt (psK p k) v).Id,(nbB z vt (psK p k) v).Name,psK p (k+1),(nbB z vt (psK p k) v).F,(nbB z vt (psK p k) v).V,(nbB z vt (psK p k) v).Tk,(nbB z vt (psK p k) v).Pa,(nbB z vt (psK p k) v).Wo,(nbB z vt (psK p k) v).Dr,(nbB z vt (psK p k) v).Ve⟩=some (nbB z vt (psK p (k+1)) v'):=f2
  rw[this]
  rfl
def NU(q:Int)(y y':zA):Prop:=(y=noB∧y'=noB)∨∃(z:Int) (p:Nat) (vt:zm) (w:Int),q=p∧(1≤z∧z≤99)∧1≤p∧p≤6∧vt.sz≤10∧vt.wf∧qN 1048800 vt p=some true∧0≤w∧w≤1000000∧y=nbB z vt (psK p 0) 0∧y'=nbB z vt (psK p p) w∧∀(i:Nat) (zs:List zA) (hi:i<zs.length),zs[i]=y→Qv 1048800 1048800 q i 0 zs=some (.inl (zs.set i y'))
theorem NU.facts{q:Int}{y y':zA}(h:NU q y y'):y.wf∧y'.wf∧y.sz≤16∧y'.sz≤16∧y.Id=y'.Id∧y.Ps.length=y'.Ps.length∧(zg 1048800 y=some true↔zg 1048800 y'=some true)∧(∀j (hj:j<y.Ps.length),y.Ps[j].Up=false∧y.Ps[j].Has=false)∧(∀j (hj:j<y'.Ps.length),y'.Ps[j].Up=true∧y'.Ps[j].Has=false):=by
 rcases h with⟨rfl,rfl⟩|⟨z,p,vt,w,rfl,hz,h1,h6,hs,wv,hv,w0,w1,rfl,rfl,_⟩
 ·exact⟨zSM,zSM,by decide,by decide,rfl,rfl,Iff.rfl,fun j hj=>absurd hj (Nat.not_lt_zero j),fun j hj=>absurd hj (Nat.not_lt_zero j)⟩
 ·refine⟨zQG hz h6 (by omega) wv (by omega) (by omega),zQG hz h6 (by omega) wv w0 w1,?_,?_,rfl,?_,?_,fun j hj=>?_,fun j hj=>?_⟩
  ·rw[zQF,zBv (by omega)];omega
  ·rw[zQF,zBv (by omega)];omega
  ·show(psK p 0).length=(psK p p).length
   rw[zBv (by omega),zBv (by omega)]
  ·exact⟨fun _=>zOW hz h1 h6 (by omega) hv w0 w1,fun _=>zOW hz h1 h6 (by omega) hv (by omega) (by omega)⟩
  ·have e:(nbB z vt (psK p 0) 0).Ps[j]=if j<0 then upP else dnP:=zG5 hj
   rw[e,if_neg (by omega)];exact⟨rfl,rfl⟩
  ·have e:(nbB z vt (psK p p) w).Ps[j]=if j<p then upP else dnP:=zG5 hj
   have hl:(nbB z vt (psK p p) w).Ps.length=p:=zBv (by omega)
   rw[e,if_pos (by omega)];exact⟨rfl,rfl⟩
theorem zFK(q:Int)(ys ys':List zA)(hl:ys'.length=ys.length)(h6:ys.length≤6)(hu:∀j (hj:j<ys.length) (hj':j<ys'.length),NU q ys[j] ys'[j])(hok:∀j (hj:j<ys.length),ys[j]≠noB):∀(m k:Nat) (zs:List zA),k≤ys.length→ys.length<m+k→(hz:zs.length=ys.length)→(∀j (hj:j<zs.length),zs[j]=if j<k then ys'[j]'(by omega)else ys[j]'(by omega))→QI 1048800 m q k zs=some (.inl ys')
 |0,k,zs,h1,h2,hz,h3=>by omega
 | m + 1,k,zs,h1,h2,hz,h3 => by
  rw[QI]
  by_cases hk:k<ys.length
  ·rcases hu k hk (by omega)with⟨e,_⟩|⟨z,p,vt,w,rfl,_,_,_,_,_,_,_,_,_,_,f⟩
   ·exact absurd e (hok k hk)
   ·rw[tQ (show(k:Int)<(zs.length:Int) by omega),cQ,f k zs (by omega) (by rw[h3 k (by omega),if_neg (by omega)])]
    simp only[bQ,zBM]
    rw[vQ k]
    refine zFK _ ys ys' hl h6 hu hok m (k+1) _ (by omega) (by omega) (by simpa using hz) (fun j hj=>?_)
    rw[List.length_set]at hj
    rw[List.getElem_set]
    by_cases hjk:k=j
    ·subst hjk;rw[if_pos rfl,if_pos (by omega)]
    ·rw[if_neg hjk,h3 j hj]
     by_cases hlt:j<k
     ·rw[if_pos hlt,if_pos (by omega)]
     ·rw[if_neg hlt,if_neg (by omega)]
  ·obtain rfl:k=ys.length:=by omega
   rw[dQ (show¬((ys.length:Nat):Int)<(zs.length:Int) by omega),fQ]
   congr 2
   refine List.ext_getElem (by omega) fun j a b=>?_
   rw[h3 j a,if_pos (by omega)]
theorem zRi(q:Int)(ls:List Link)(ys ys':List zA)(hl:ys'.length=ys.length)(hu:∀j (hj:j<ys.length) (hj':j<ys'.length),NU q ys[j] ys'[j]):zPU 1048800 ⟨ys,ls,[]⟩↔zPU 1048800 ⟨ys',ls,[]⟩:=by
 have bok:∀k,BOk 1048800 ⟨ys,ls,[]⟩ k↔BOk 1048800 ⟨ys',ls,[]⟩ k:=fun k=>by
  constructor
  ·intro h hk'
   have hk:k<ys.length:=by simp only at hk';omega
   have f:=(hu k hk (by simp only at hk';exact hk')).facts
   obtain⟨a,b,_⟩:=h hk
   refine⟨f.2.2.2.2.2.2.1.1 a,fun j hj=>?_,fun p hp hh=>?_⟩
   ·have g:=(hu j (by omega) (by omega)).facts
    have:=b j hj
    simp only at this⊢
    rw[←g.2.2.2.2.1,←f.2.2.2.2.1];exact this
   ·exact absurd (hh.symm.trans (f.2.2.2.2.2.2.2.2 p hp).2) (by simp)
  ·intro h hk
   have hk':k<ys'.length:=by simp only at hk;omega
   have f:=(hu k (by simp only at hk;exact hk) hk').facts
   obtain⟨a,b,_⟩:=h hk'
   refine⟨f.2.2.2.2.2.2.1.2 a,fun j hj=>?_,fun p hp hh=>?_⟩
   ·have g:=(hu j (by omega) (by omega)).facts
    have:=b j hj
    simp only at this⊢
    rw[g.2.2.2.2.1,f.2.2.2.2.1];exact this
   ·exact absurd (hh.symm.trans (f.2.2.2.2.2.2.2.1 p hp).2) (by simp)
 have port:∀b p,(∃v,ZQ ⟨ys,ls,[]⟩ b p=some v)↔∃v,ZQ ⟨ys',ls,[]⟩ b p=some v:=fun b p=>by
  constructor
  ·rintro⟨v,hv⟩
   obtain⟨a,h1,h2⟩:=Y3 hv
   obtain⟨i0,i1⟩:=zBh h1
   obtain⟨j0,j1⟩:=zBh h2
   obtain⟨i,rfl⟩:=Int.eq_ofNat_of_zero_le i0
   obtain⟨j,rfl⟩:=Int.eq_ofNat_of_zero_le j0
   have hi:i<ys.length:=by simp only at i1;omega
   rw[zK hi]at h1
   obtain rfl:=Option.some.inj h1
   have f:=(hu i hi (by omega)).facts.2.2.2.2.2.1
   exact⟨_,by unfold ZQ;rw[zK (show i<ys'.length by omega),bQ,zK (show j<ys'[i].Ps.length by omega)]⟩
  ·rintro⟨v,hv⟩
   obtain⟨a,h1,h2⟩:=Y3 hv
   obtain⟨i0,i1⟩:=zBh h1
   obtain⟨j0,j1⟩:=zBh h2
   obtain⟨i,rfl⟩:=Int.eq_ofNat_of_zero_le i0
   obtain⟨j,rfl⟩:=Int.eq_ofNat_of_zero_le j0
   have hi:i<ys'.length:=by simp only at i1;omega
   rw[zK hi]at h1
   obtain rfl:=Option.some.inj h1
   have f:=(hu i (by omega) hi).facts.2.2.2.2.2.1
   exact⟨_,by unfold ZQ;rw[zK (show i<ys.length by omega),bQ,zK (show j<ys[i].Ps.length by omega)]⟩
 have down:∀b p v,ZQ ⟨ys,ls,[]⟩ b p=some v→v.Up=false:=fun b p v hv=>by
  obtain⟨a,h1,h2⟩:=Y3 hv
  obtain⟨i0,i1⟩:=zBh h1
  obtain⟨j0,j1⟩:=zBh h2
  obtain⟨i,rfl⟩:=Int.eq_ofNat_of_zero_le i0
  obtain⟨j,rfl⟩:=Int.eq_ofNat_of_zero_le j0
  have hi:i<ys.length:=by simp only at i1;omega
  rw[zK hi]at h1
  obtain rfl:=Option.some.inj h1
  have hj:j<ys[i].Ps.length:=by omega
  rw[zK hj]at h2
  obtain rfl:=Option.some.inj h2
  exact((hu i hi (by omega)).facts.2.2.2.2.2.2.2.1 j hj).1
 have up:∀b p v,ZQ ⟨ys',ls,[]⟩ b p=some v→v.Up=true:=fun b p v hv=>by
  obtain⟨a,h1,h2⟩:=Y3 hv
  obtain⟨i0,i1⟩:=zBh h1
  obtain⟨j0,j1⟩:=zBh h2
  obtain⟨i,rfl⟩:=Int.eq_ofNat_of_zero_le i0
  obtain⟨j,rfl⟩:=Int.eq_ofNat_of_zero_le j0
  have hi:i<ys'.length:=by simp only at i1;omega
  rw[zK hi]at h1
  obtain rfl:=Option.some.inj h1
  have hj:j<ys'[i].Ps.length:=by omega
  rw[zK hj]at h2
  obtain rfl:=Option.some.inj h2
  exact((hu i (by omega) hi).facts.2.2.2.2.2.2.2.2 j hj).1
 have lok:∀l,LOk ⟨ys,ls,[]⟩ l↔LOk ⟨ys',ls,[]⟩ l:=fun l=>by
  constructor
  ·rintro⟨hab,p,q,e1,e2,_⟩
   obtain⟨p',e1'⟩:=(port _ _).1 ⟨p,e1⟩
   obtain⟨q',e2'⟩:=(port _ _).1 ⟨q,e2⟩
   exact⟨hab,p',q',e1',e2',(up _ _ _ e1').trans (up _ _ _ e2').symm⟩
  ·rintro⟨hab,p,q,e1,e2,_⟩
   obtain⟨p',e1'⟩:=(port _ _).2 ⟨p,e1⟩
   obtain⟨q',e2'⟩:=(port _ _).2 ⟨q,e2⟩
   exact⟨hab,p',q',e1',e2',(down _ _ _ e1').trans (down _ _ _ e2').symm⟩
 unfold zPU
 constructor
 ·rintro⟨h1,h2,h3,h4,h5⟩
  exact⟨fun k hk=>(bok k).1 (h1 k (by simp only at hk ⊢; omega)),⟨by simp only at h2 ⊢; omega,by simp only at h2 ⊢; omega⟩,h3,h4,fun k hk=>⟨(lok _).1 (h5 k hk).1,(h5 k hk).2⟩⟩
 ·rintro⟨h1,h2,h3,h4,h5⟩
  exact⟨fun k hk=>(bok k).2 (h1 k (by simp only at hk ⊢; omega)),⟨by simp only at h2 ⊢; omega,by simp only at h2 ⊢; omega⟩,h3,h4,fun k hk=>⟨(lok _).2 (h5 k hk).1,(h5 k hk).2⟩⟩
theorem zIX(n:Nat)(xs:List zM)(t a:Int)(h:xs.length≤1048580):∀(m k:Nat),k≤xs.length→xs.length<m+k→(Qz n m xs t a k=some (.inl ())∧∀j,k≤j→∀hj:j<xs.length,¬(xs[j].Tag=t∧xs[j].Mac=a))∨∃j,k≤j∧∃hj:j<xs.length,Qz n m xs t a k=some (.inr (j:Int))∧xs[j].Tag=t∧xs[j].Mac=a
 |0,k,h1,h2=>by omega
 | m + 1,k,h1,h2 => by
  rw[Qz]
  by_cases hk:k<xs.length
  ·rw[qU hk,cQ,zK hk,bQ,bQ,vQ k]
   by_cases ht:xs[k].Tag=t
   ·rw[show(xs[k].Tag==t)=true from by simpa using ht,cQ]
    by_cases ha:xs[k].Mac=a
    ·rw[show(xs[k].Mac==a)=true from by simpa using ha,cQ]
     exact .inr ⟨k,Nat.le_refl _,hk,rfl,ht,ha⟩
    ·rw[show(xs[k].Mac==a)=false from by simpa using ha,fQ]
     rcases zIX n xs t a h m (k+1) (by omega) (by omega)with⟨e,p⟩|⟨j,hj,hj2,e,p⟩
     ·refine .inl ⟨e,fun j hj hj2=>?_⟩
      by_cases hjk:j=k
      ·subst hjk;exact fun hc=>ha hc.2
      ·exact p j (by omega) hj2
     ·exact .inr ⟨j,by omega,hj2,e,p⟩
   ·rw[show(xs[k].Tag==t)=false from by simpa using ht,fQ]
    rcases zIX n xs t a h m (k+1) (by omega) (by omega)with⟨e,p⟩|⟨j,hj,hj2,e,p⟩
    ·refine .inl ⟨e,fun j hj hj2=>?_⟩
     by_cases hjk:j=k
     ·subst hjk;exact fun hc=>ht hc.1
     ·exact p j (by omega) hj2
    ·exact .inr ⟨j,by omega,hj2,e,p⟩
  ·obtain rfl:k=xs.length:=by omega
   rw[z6]
   exact .inl ⟨rfl,fun j hj hj2=>by omega⟩
theorem zIN(n:Nat)(xs:List zM)(t a:Int)(h:xs.length≤1048580)(hn:xs.length<n):(zCS n xs t a=some (-1)∧∀j (hj:j<xs.length),¬(xs[j].Tag=t∧xs[j].Mac=a))∨∃j,∃hj:j<xs.length,zCS n xs t a=some (j:Int)∧xs[j].Tag=t∧xs[j].Mac=a:=by
 unfold zCS
 rcases zIX n xs t a h n 0 (by omega) (by omega)with⟨e,p⟩|⟨j,_,hj,e,p⟩
 ·rw[show Qz n n xs t a 0= _ from e]
  exact .inl ⟨rfl,fun j hj=>p j (by omega) hj⟩
 ·rw[show Qz n n xs t a 0= _ from e]
  exact .inr ⟨j,hj,rfl,p⟩
def JL(v:zM)(t a:Int):Prop:=v.Tag<t∨v.Tag=t∧v.Mac<a
instance (v:zM) (t a:Int):Decidable (JL v t a):=inferInstanceAs (Decidable (_∨_))
def zI1(e:zM):List zM→List zM
 |[]=>[e]
 |v::vs=>if JL v e.Tag e.Mac then v::zI1 e vs else if v.Tag=e.Tag∧v.Mac=e.Mac then e::vs else e::v::vs
theorem zPC(e:zM):∀xs:List zM,(zI1 e xs).length≤xs.length+1
 |[]=>Nat.le_refl _
 |v::vs=>by
  unfold zI1
  have:=zPC e vs
  split
  ·simp only[List.length_cons];omega
  ·split<;>simp only[List.length_cons]<;>omega
theorem zGN(e:zM):∀(xs:List zM) (v:zM),v∈zI1 e xs→v=e∨v∈xs
 |[],v,h=>by simp[zI1]at h;exact .inl h
 | u :: us,v,h => by
  unfold zI1 at h
  split at h
  ·rcases List.mem_cons.1 h with rfl|h
   ·exact .inr (by simp)
   ·rcases zGN e us v h with h|h
    ·exact .inl h
    ·exact .inr (by simp[h])
  ·split at h
   ·rcases List.mem_cons.1 h with rfl|h
    ·exact .inl rfl
    ·exact .inr (by simp[h])
   ·rcases List.mem_cons.1 h with rfl|h
    ·exact .inl rfl
    ·exact .inr h
theorem zCh(n:Nat)(v:zM)(t a:Int):QL n v t a=some (decide (JL v t a)):=by
 unfold QL
 by_cases h:v.Tag=t
 ·rw[show(v.Tag != t)=false from by simpa using h,fQ]
  congr 1
  rw[decide_eq_decide]
  unfold JL
  constructor
  ·intro h2;exact .inr ⟨h,h2⟩
  ·rintro(h2|h2)
   ·omega
   ·exact h2.2
 ·rw[show(v.Tag != t)=true from by simpa using h,cQ]
  congr 1
  rw[decide_eq_decide]
  unfold JL
  constructor
  ·intro h2;exact .inl h2
  ·rintro(h2|h2)
   ·exact h2
   ·exact absurd h2.1 h
theorem zIQ(n:Nat)(xs:List zM)(h:xs.length≤1048580)(hok:Zr n xs=some true):∀(j i:Nat) (hij:i<j) (hj:j<xs.length),JL (xs[i]'(by omega)) xs[j].Tag xs[j].Mac:=by
 have hs:=(zGm n xs h hok).2.2
 intro j
 induction j with
 |zero=>intro i hij;omega
 | succ j ih =>
  intro i hij hj
  have h1:=hs j hj
  rw[zCh]at h1
  have h1:=of_decide_eq_true (Option.some.inj h1)
  by_cases e:i=j
  ·subst e;exact h1
  ·have:=ih i (by omega) (by omega)
   unfold JL at this h1⊢
   omega
theorem zDM(n:Nat)(xs:List zM)(e:zM)(h:xs.length≤1048580):∀(m k:Nat) (acc:List zM),k≤xs.length→xs.length<m+k→acc.length≤k+1→(∀j,k≤j→∀hj:j<xs.length,¬(xs[j].Tag=e.Tag∧xs[j].Mac=e.Mac))→ZT n m xs e k true acc=some (.inl (true,acc++xs.drop k))
 |0,k,acc,h1,h2,h3,hne=>by omega
 | m + 1,k,acc,h1,h2,h3,hne => by
  rw[ZT]
  by_cases hk:k<xs.length
  ·have hg:∀v:zM,decide (acc.length+ [v].length≤268435456)=true:=fun v=>tQ (by simp;omega)
   have ih:=zDM n xs e h m (k+1) (acc++[xs[k]]) (by omega) (by omega) (by simp;omega) (fun j hj=>hne j (by omega))
   rw[qU hk,cQ,nQ,fQ]
   simp only[YU,zK hk,bQ,hg,cQ,vQ k]
   have hd:acc++[xs[k]]++xs.drop (k+1)=acc++xs.drop k:=by rw[List.append_assoc,List.drop_eq_getElem_cons hk];rfl
   rw[hd]at ih
   by_cases ht:xs[k].Tag=e.Tag
   ·have hm:xs[k].Mac≠e.Mac:=fun hm=>hne k (Nat.le_refl _) hk ⟨ht,hm⟩
    rw[show(xs[k].Tag != e.Tag)=false from by simpa using ht,fQ,show(xs[k].Mac != e.Mac)=true from by simpa using hm,cQ]
    exact ih
   ·rw[show(xs[k].Tag != e.Tag)=true from by simpa using ht,cQ]
    exact ih
  ·obtain rfl:k=xs.length:=by omega
   rw[z6,fQ,List.drop_length,List.append_nil]
theorem zF7(n:Nat)(xs:List zM)(e:zM)(h:xs.length≤1048580)(hs:∀(j i:Nat) (hij:i<j) (hj:j<xs.length),JL (xs[i]'(by omega)) xs[j].Tag xs[j].Mac):∀(m k:Nat) (acc:List zM),k≤xs.length→xs.length<m+k→acc.length≤k→∃b zs,ZT n m xs e k false acc=some (.inl (b,zs))∧zs.length≤xs.length+1∧(bif !b then zs++[e]else zs)=acc++zI1 e (xs.drop k)
 |0,k,acc,h1,h2,h3=>by omega
 | m + 1,k,acc,h1,h2,h3 => by
  rw[ZT]
  by_cases hk:k<xs.length
  ·have hg:∀(zs:List zM) (v:zM),zs.length≤k+1→decide (zs.length+ [v].length≤268435456)=true:=fun zs v hz=>tQ (by simp;omega)
   rw[qU hk,cQ,Bool.not_false,cQ,zK hk,bQ,zCh,bQ]
   rw[List.drop_eq_getElem_cons hk]
   by_cases ha:JL xs[k] e.Tag e.Mac
   ·obtain⟨b,zs,e1,e2,e3⟩:=zF7 n xs e h hs m (k+1) (acc++[xs[k]]) (by omega) (by omega) (by simp;omega)
    refine⟨b,zs,?_,e2,?_⟩
    ·rw[tQ ha]
     simp only[nQ,fQ,YU,zK hk,bQ,hg acc _ (by omega),cQ,vQ k]
     by_cases ht:xs[k].Tag=e.Tag
     ·have hm:xs[k].Mac≠e.Mac:=fun hm=>by unfold JL at ha;omega
      rw[show(xs[k].Tag != e.Tag)=false from by simpa using ht,fQ,show(xs[k].Mac != e.Mac)=true from by simpa using hm,cQ]
      exact e1
     ·rw[show(xs[k].Tag != e.Tag)=true from by simpa using ht,cQ]
      exact e1
    ·rw[e3,zI1,if_pos ha,List.append_assoc];rfl
   ·rw[dQ ha,zI1,if_neg ha]
    have rest:∀j,k+1≤j→∀hj:j<xs.length,¬(xs[j].Tag=e.Tag∧xs[j].Mac=e.Mac):=fun j hj hj2 hc=>by
     have:=hs j k (by omega) hj2
     rw[hc.1,hc.2]at this
     exact ha this
    simp only[Bool.not_false,cQ,hg acc _ (by omega),YU,zK hk,bQ,hg (acc++[e]) _ (by simp;omega),vQ k]
    by_cases hkey:xs[k].Tag=e.Tag∧xs[k].Mac=e.Mac
    ·rw[show(xs[k].Tag != e.Tag)=false from by simpa using hkey.1,fQ,show(xs[k].Mac != e.Mac)=false from by simpa using hkey.2,fQ]
     refine⟨true,_,zDM n xs e h m (k+1) (acc++[e]) (by omega) (by omega) (by simp;omega) rest,by simp;omega,?_⟩
     rw[if_pos hkey,nQ,fQ,List.append_assoc];rfl
    ·have e1:=zDM n xs e h m (k+1) (acc++[e]++[xs[k]]) (by omega) (by omega) (by simp;omega) rest
     refine⟨true,acc++[e]++[xs[k]]++xs.drop (k+1),?_,by simp;omega,?_⟩
     ·by_cases ht:xs[k].Tag=e.Tag
      ·have hm:xs[k].Mac≠e.Mac:=fun hm=>hkey ⟨ht,hm⟩
       rw[show(xs[k].Tag != e.Tag)=false from by simpa using ht,fQ,show(xs[k].Mac != e.Mac)=true from by simpa using hm,cQ]
       exact e1
      ·rw[show(xs[k].Tag != e.Tag)=true from by simpa using ht,cQ]
       exact e1
     ·rw[if_neg hkey,nQ,fQ]
      simp
  ·obtain rfl:k=xs.length:=by omega
   rw[z6]
   refine⟨false,acc,rfl,by omega,?_⟩
   rw[List.drop_length]
   rfl
theorem zGu(n:Nat)(xs:List zM)(e:zM)(h:xs.length≤1048580)(hn:xs.length<n)(hs:∀(j i:Nat) (hij:i<j) (hj:j<xs.length),JL (xs[i]'(by omega)) xs[j].Tag xs[j].Mac):Y6 n xs e=some (zI1 e xs):=by
 obtain⟨b,zs,e1,e2,e3⟩:=zF7 n xs e h hs n 0 [] (by omega) (by omega) (by simp)
 unfold Y6
 rw[show ZT n n xs e 0 false []= _ from e1]
 simp only[bQ,zB1]
 rw[tQ (by simp;omega)]
 rw[List.drop_zero,List.nil_append]at e3
 rw[←e3]
 cases b<;>rfl
theorem zPD(e:zM):∀(xs:List zM) (k:Nat) (hk:k<xs.length) (hs:∀(j i:Nat) (hij:i<j) (hj:j<xs.length),JL (xs[i]'(by omega)) xs[j].Tag xs[j].Mac),xs[k].Tag=e.Tag→xs[k].Mac=e.Mac→zI1 e xs=xs.set k e
 |[],k,hk,hs,h1,h2=>by simp at hk
 |v::vs,0,hk,hs,h1,h2=>by
  have h1:v.Tag=e.Tag:=h1
  have h2:v.Mac=e.Mac:=h2
  unfold zI1
  rw[if_neg (by unfold JL;omega),if_pos ⟨h1,h2⟩]
  rfl
 | v :: vs,k + 1,hk,hs,h1,h2 => by
  have ha:JL v e.Tag e.Mac:=by
   have:=hs (k+1) 0 (by omega) hk
   rw[h1,h2]at this
   exact this
  unfold zI1
  rw[if_pos ha,zPD e vs k (by simpa using hk) (fun j i hij hj=>hs (j+1) (i+1) (by omega) (by simpa using hj)) h1 h2]
  rfl
def zPa(v:zM):Prop:=(1≤v.Tag∧v.Tag≤99)∧(1≤v.Mac∧v.Mac≤9999)∧(0≤v.Port∧v.Port≤7)∧(0≤v.Age∧v.Age≤4)∧(v.Sc=true→v.Age=0)
def zFa(xs:List zM):Prop:=xs.length≤12∧(∀v∈xs,zPa v)∧xs.Pairwise fun a b=>JL a b.Tag b.Mac
theorem zHS(n:Nat)(v:zM)(h:zPa v):Zt n v=some true:=by
 obtain⟨h1,h2,h3,h4,h5⟩:=h
 have two:∀ {a b c:Int},a≤b→b≤c→(decide (a≤b)&&decide (b≤c))=true:=fun h h'=>by rw[tQ h,tQ h'];rfl
 unfold Zt
 simp only[zV,bQ,two h1.1 h1.2,two h2.1 h2.2,two h3.1 h3.2,two h4.1 h4.2,cQ]
 cases hs:v.Sc with
 |false=>rfl
 |true=>rw[h5 hs];rfl
theorem zCo(n:Nat)(xs:List zM)(hn:xs.length<n)(h:zFa xs):Zr n xs=some true:=by
 obtain⟨h1,h2,h3⟩:=h
 rw[List.pairwise_iff_getElem]at h3
 unfold Zr
 rcases JF (L:=fun m k=>qt n m xs k) (N:=xs.length) (P:=fun _=>True) (fun m k hk=>by
  refine .inl ⟨trivial,?_⟩
  simp only[qt]
  rw[qU hk,cQ,zK hk,bQ,zHS n _ (h2 _ (List.getElem_mem hk)),bQ,vQ k,nQ,fQ]
  cases k with
  |zero=>rfl
  |succ k=>
   have hw2:wI (((k+1:Nat):Int)-1)=(k:Int):=by rw[wQ];omega
   rw[tQ (show((k+1:Nat):Int)>0 by omega),hw2,cQ,zK (show k<xs.length by omega),bQ,bQ,bQ,zCh,tQ (h3 k (k+1) (by omega) hk (by omega))]
   rfl) (fun m=>⟨(),by simp only[qt];rw[z6];rfl⟩) n 0 (by omega) (by omega)with⟨a,e,_⟩|⟨_,p⟩
 ·rw[show qt n n xs 0= _ from e,bQ]
  simp only[zBw]
  rw[tQ (by omega)]
 ·exact absurd (fun _ _ _=>trivial) p
theorem zDd(n:Nat)(xs:List zM)(h:xs.length≤1048580)(hok:Zr n xs=some true):zFa xs:=by
 obtain⟨h1,h2,_⟩:=zGm n xs h hok
 refine⟨h1,fun v hv=>?_,?_⟩
 ·obtain⟨j,hj,rfl⟩:=List.getElem_of_mem hv
  exact zGt n _ (h2 j hj)
 ·rw[List.pairwise_iff_getElem]
  intro i j hi hj hij
  exact zIQ n xs h hok j i hij hj
theorem zFa.sub{xs ys:List zM}(h:zFa xs)(hs:ys.Sublist xs):zFa ys:=⟨Nat.le_trans hs.length_le h.1,fun v hv=>h.2.1 v (hs.subset hv),h.2.2.sublist hs⟩
theorem zAk(n:Nat)(bits:Int)(x:zA)(h:x.Ps.length≤6):∀(m k:Nat) (ys zs:List zM),k≤x.Ps.length→ys.length≤134217728→ys.length<n→qm n m bits x k ys=some (.inl zs)→zs.Sublist ys
 |0,k,ys,zs,h1,h3,h4,e=>by cases e
 | m + 1,k,ys,zs,h1,h3,h4,e => by
  rw[qm]at e
  by_cases hk:k<x.Ps.length
  ·rw[qU hk,cQ,zCH n bits k (by omega),bQ,vQ k,zBo n ys _ h3 h4]at e
   cases hb:zMn bits k with
   |true=>
    rw[hb]at e
    exact zAk n bits x h m (k+1) ys zs (by omega) h3 h4 e
   |false=>
    rw[hb]at e
    have hle:=List.length_filter_le (fun v:zM=>v.Sc||v.Port != (k:Int)) ys
    exact(zAk n bits x h m (k+1) (ys.filter fun v=>v.Sc||v.Port != (k:Int)) zs (by omega) (by omega) (by omega) e).trans List.filter_sublist
  ·have he:k=x.Ps.length:=by omega
   subst he
   rw[z6]at e
   cases e
   exact List.Sublist.refl _
theorem zHk(n:Nat)(x y:zA)(h:x.Ps.length≤6)(h3:x.F.length≤134217728)(h4:x.F.length<n)(e:ZK n x=some y):y.F.Sublist x.F:=by
 unfold ZK at e
 obtain⟨v,_,e⟩:=bind_some e
 obtain⟨b,_,e⟩:=bind_some e
 obtain⟨o,ho,e⟩:=bind_some e
 cases o with
 |inl zs=>
  have hz:=zAk n b x h n 0 x.F zs (by omega) h3 h4 ho
  cases e
  exact hz
 | inr r =>
  exfalso
  have key:∀(m k:Nat) (ys:List zM),k≤x.Ps.length→ys.length≤134217728→ys.length<n→∀r,qm n m b x k ys≠some (.inr r):=by
   intro m
   induction m with
   |zero=>intro k ys h1 h3 h4 r e;cases e
   | succ m ih =>
    intro k ys h1 h3 h4 r e
    rw[qm]at e
    by_cases hk:k<x.Ps.length
    ·rw[qU hk,cQ,zCH n b k (by omega),bQ,vQ k,zBo n ys _ h3 h4]at e
     have hle:=List.length_filter_le (fun v:zM=>v.Sc||v.Port != (k:Int)) ys
     cases hb:zMn b k with
     |true=>rw[hb]at e;exact ih (k+1) ys (by omega) h3 h4 r e
     |false=>rw[hb]at e;exact ih (k+1) _ (by omega) (by omega) (by omega) r e
    ·have he:k=x.Ps.length:=by omega
     subst he
     rw[z6]at e
     cases e
  exact key n 0 x.F (by omega) h3 h4 r ho
def zMm(v:zM):Option zM:=if v.Sc then some v else if v.Age<4 then some ⟨v.Tag,v.Mac,v.Port,v.Age+1,false⟩else none
theorem zEc(n:Nat)(xs:List zM)(h:xs.length≤134217728)(ha:∀v∈xs,0≤v.Age∧v.Age≤1000):∀(m k:Nat) (acc:List zM),k≤xs.length→xs.length<m+k→acc.length≤k→ZR n m xs k acc=some (.inl (acc++(xs.drop k).filterMap zMm))
 |0,k,acc,h1,h2,h3=>by omega
 | m + 1,k,acc,h1,h2,h3 => by
  rw[ZR]
  by_cases hk:k<xs.length
  ·rw[qU hk,cQ,zK hk,bQ,vQ k]
   have hg:∀v:zM,decide (acc.length+ [v].length≤268435456)=true:=fun v=>tQ (by simp;omega)
   simp only[hg,cQ]
   have ih:=fun acc' h3'=>zEc n xs h ha m (k+1) acc' (by omega) (by omega) h3'
   rw[List.drop_eq_getElem_cons hk,List.filterMap_cons]
   cases hs:xs[k].Sc with
   |true=>
    have e:zMm xs[k]=some xs[k]:=by unfold zMm;rw[if_pos hs]
    rw[cQ,ih (acc++[xs[k]]) (by simp;omega),e]
    simp
   | false =>
    have hw:wI (xs[k].Age+1)=xs[k].Age+1:=by
     have:=ha _ (List.getElem_mem hk)
     exact wQ
    by_cases hl:xs[k].Age<4
    ·have e:zMm xs[k]=some ⟨xs[k].Tag,xs[k].Mac,xs[k].Port,xs[k].Age+1,false⟩:=by unfold zMm;rw[if_neg (by simp[hs]),if_pos hl]
     rw[fQ,tQ hl,cQ,ih _ (by simp;omega),e,hw]
     simp
    ·have e:zMm xs[k]=none:=by unfold zMm;rw[if_neg (by simp[hs]),if_neg hl]
     rw[fQ,dQ hl,fQ,ih _ (by omega),e]
  ·have he:k=xs.length:=by omega
   subst he
   rw[z6]
   simp
theorem zJw{v w:zM}(h:zMm v=some w):w.Tag=v.Tag∧w.Mac=v.Mac∧(zPa v→zPa w):=by
 unfold zMm at h
 split at h
 ·cases h;exact⟨rfl,rfl,id⟩
 ·split at h
  ·rename_i h1 h2
   cases h
   refine⟨rfl,rfl,fun⟨a,b,c,d,e⟩=>⟨a,b,c,⟨by simp only;omega,by simp only;omega⟩,fun hs=>by cases hs⟩⟩
  ·cases h
theorem zFa.age{xs:List zM}(h:zFa xs):zFa (xs.filterMap zMm):=by
 obtain⟨h1,h2,h3⟩:=h
 refine⟨Nat.le_trans (List.length_filterMap_le _ _) h1,fun v hv=>?_,?_⟩
 ·obtain⟨u,hu,e⟩:=List.mem_filterMap.1 hv
  exact(zJw e).2.2 (h2 u hu)
 ·rw[List.pairwise_filterMap]
  refine h3.imp fun {a b} hab a' ha b' hb=>?_
  obtain⟨p1,p2,_⟩:=zJw ha
  obtain⟨q1,q2,_⟩:=zJw hb
  unfold JL at hab⊢
  rw[p1,p2,q1,q2]
  exact hab
theorem zDK(n:Nat)(xs:List zM)(h:zFa xs)(hn:12<n):Jc n xs=some (xs.filterMap zMm):=by
 have h1:=h.1
 unfold Jc
 rw[show ZR n n xs 0 []= _ from zEc n xs (by omega) (fun v hv=>by have:=(h.2.1 v hv).2.2.2.1;omega) n 0 [] (by omega) (by omega) (by simp)]
 rfl
theorem zLy{v:zM}(h:zPa v):v.wf:=by
 obtain⟨h1,h2,h3,h4,_⟩:=h
 exact⟨zk (by omega) (by omega),zk (by omega) (by omega),zk (by omega) (by omega),zk (by omega) (by omega),trivial⟩
theorem zON(n:Nat)(x:zA)(hn:1048577<n)(wx:x.wf)(hx:x.sz≤1048576)(hb:zg n x=some true)(ps:List Pt)(hp:ps.length=x.Ps.length)(hps:∀j (hj:j<ps.length),qZ n ps[j]=some true)(wps:zAt Pt.wf ps)(fs:List zM)(hf:fs.length≤x.F.length)(hfs:zFa fs)(t:Int)(t0:0≤t)(t1:t≤1000000):
  ∃(zs:List zM) (v b:Int),ZK n ⟨x.Id,x.Name,ps,fs,x.V,t,x.Pa,x.Wo,x.Dr,x.Ve⟩=some ⟨x.Id,x.Name,ps,zs,x.V,t,x.Pa,x.Wo,x.Dr,v⟩∧Z9 n ⟨x.Id,x.Name,ps,fs,x.V,t,x.Pa,x.Wo,x.Dr,x.Ve⟩=some ⟨x.Id,x.Name,ps,zs,x.V,t,x.Pa,x.Wo,x.Dr,v⟩∧
   zg n ⟨x.Id,x.Name,ps,zs,x.V,t,x.Pa,x.Wo,x.Dr,v⟩=some true∧(⟨x.Id,x.Name,ps,zs,x.V,t,x.Pa,x.Wo,x.Dr,v⟩:zA).wf∧(⟨x.Id,x.Name,ps,zs,x.V,t,x.Pa,x.Wo,x.Dr,v⟩:zA).sz≤x.sz∧Zs n x.Id ps=some b∧(∀u∈zs,u.Sc=true∨∀j:Nat,j<ps.length→zMn b j=false→u.Port≠j)∧zs.Sublist fs:=by
 have hs:x.Name.size+x.Ps.length+x.F.length+x.V.sz=x.sz:=rfl
 obtain⟨p1,p2,p3,p4,p5,p6,p7,p8,p9,p10,p11,p12,p13⟩:=qF n x (by omega) hb
 obtain⟨zs,v,b,e1,e2,e3,e4,e5,e6,e7,e8⟩:=zFl n x hn hx hb ps hp fs hf t
 have hsub:=zHk n _ _ (by simp only;omega) (by simp only;omega) (by simp only;omega) e1
 have hz:zFa zs:=hfs.sub hsub
 have hz1:=hz.1
 obtain⟨w1,w2,w3,w4,w5,w6,w7,w8,w9,w10,w11,w12⟩:=wx
 refine⟨zs,v,b,e1,e2,?_,⟨w1,w2,wps,⟨Nat.le_trans hz1 (by decide),fun u hu=>zLy (hz.2.1 u hu)⟩,w5,w6,iQ (z:=t),w8,w9,w10,iQ (z:=v),trivial⟩,?_,e7,e8,hsub⟩
 ·exact zA3 n ⟨x.Id,x.Name,ps,zs,x.V,t,x.Pa,x.Wo,x.Dr,v⟩ (by simp only;omega) (by simp only;omega) (by simp only;omega) p3 p4 p5 (zCo n zs (by omega) hz) (by simp only[hp];exact p7) ⟨t0,t1⟩ p9 p10 p11 ⟨e5,e6⟩ hps
 ·show x.Name.size+ps.length+zs.length+x.V.sz≤x.sz
  omega
theorem zIO:(⟨0,0,0,0,0⟩:Vec).wf:=by
 have z0:qx 0:=zk (by omega) (by omega)
 exact⟨z0,z0,z0,z0,z0,trivial⟩
theorem JO(n:Nat)(p:Pt)(h:qZ n p=some true):(1≤p.Co∧p.Co≤1000)∧(p.Has=true→p.Up=true∧qK n p.Hd=some true)∧(p.Has=false→p.Hd=⟨0,0,0,0,0⟩):=by
 unfold qZ at h
 rw[zV,bQ]at h
 cases hc:(decide (1≤p.Co)&&decide (p.Co≤1000))with
 |false=>rw[hc]at h;cases h
 | true =>
  have h0:∀ {v:Vec},some ((v.Root==0)&&((v.Co==0)&&((v.Hops==0)&&((v.Bridge==0)&&((v.Port==0)&&true)))))=some true→v=⟨0,0,0,0,0⟩:=fun {v} e=>by
   have e:=Option.some.inj e
   simp only[Bool.and_eq_true,beq_iff_eq]at e
   obtain⟨a,b,c,d,f,_⟩:=e
   cases v
   simp_all
  simp only[Bool.and_eq_true,decide_eq_true_eq]at hc
  rw[tQ hc.1,tQ hc.2]at h
  simp only[Bool.and_self,nQ,fQ]at h
  cases hu:p.Up with
  |false=>
   rw[hu]at h
   simp only[Bool.not_false,cQ]at h
   cases hh:p.Has with
   |true=>rw[hh]at h;cases h
   |false=>rw[hh]at h;exact⟨hc,fun e=>(by cases e),fun _=>h0 h⟩
  | true =>
   rw[hu]at h
   simp only[nQ,fQ]at h
   cases hh:p.Has with
   |false=>rw[hh]at h;exact⟨hc,fun e=>(by cases e),fun _=>h0 h⟩
   |true=>
    rw[hh]at h
    simp only[nQ,fQ]at h
    obtain⟨b,hb,h⟩:=bind_some h
    cases h
    exact⟨hc,fun _=>⟨rfl,hb⟩,fun e=>(by cases e)⟩
theorem zEr(n:Nat)(c:Int)(up:Bool)(h:1≤c∧c≤1000):qZ n ⟨up,c,false,⟨0,0,0,0,0⟩⟩=some true:=by
 unfold qZ
 rw[zV,bQ,tQ h.1,tQ h.2]
 cases up<;>rfl
theorem zEs(n:Nat)(c:Int)(v:Vec)(h:1≤c∧c≤1000)(hv:qK n v=some true):qZ n ⟨true,c,true,v⟩=some true:=by
 unfold qZ
 rw[zV,bQ,tQ h.1,tQ h.2]
 simp only[Bool.and_self,nQ,fQ,hv,bQ]
theorem zOJ{α:Type}{P:α→Prop}{xs:List α}{k:Nat}{v:α}(h:∀j (hj:j<xs.length),P xs[j])(hv:P v):∀j (hj:j<(xs.set k v).length),P (xs.set k v)[j]:=fun j hj=>by
 rw[List.getElem_set]
 split
 ·exact hv
 ·exact h j (by simpa using hj)
theorem zFw(n:Nat)(x:zA)(k:Nat)(up:Bool)(wx:x.wf)(hx:x.sz≤1048576)(hn:1048577<n)(hb:zg n x=some true)(hk:k<x.Ps.length):∃y:zA,YP n x k up=some y∧zAo n x k up=some y∧zg n y=some true∧y.wf∧y.sz≤x.sz∧y.Id=x.Id∧y.Ps=x.Ps.set k ⟨up,x.Ps[k].Co,false,⟨0,0,0,0,0⟩⟩∧∃b,Zs n y.Id y.Ps=some b∧(∀u∈y.F,u.Sc=true∨∀j:Nat,j<y.Ps.length→zMn b j=false→u.Port≠j)∧y.F.Sublist x.F:=by
 have hs:x.Name.size+x.Ps.length+x.F.length+x.V.sz=x.sz:=rfl
 obtain⟨b,h1,h2⟩:=Z8 n x wx (by omega) (by omega)
 rw[hb]at h1
 obtain rfl:=Option.some.inj h1
 obtain⟨p1,p2,p3,p4,p5,p6,p7,p8,p9,p10,p11,p12,p13⟩:=qF n x (by omega) hb
 have hc:=(JO n _ (p13 k hk)).1
 have wk:=(wx.2.2.1.2 _ (List.getElem_mem hk))
 obtain⟨zs,v,bb,e1,e2,e3,e4,e5,e6,e7,e8⟩:=zON n x hn wx hx hb (x.Ps.set k ⟨up,x.Ps[k].Co,false,⟨0,0,0,0,0⟩⟩) (by simp) (zOJ (P:=fun q=>qZ n q=some true) p13 (zEr n _ up hc)) (zDa wx.2.2.1 ⟨wk.1,zIO.1,zIO.2.1,zIO.2.2.1,zIO.2.2.2.1,zIO.2.2.2.2.1,trivial⟩) x.F (Nat.le_refl _) (zDd n x.F (by omega) p6) x.Tk p8.1 p8.2
 have there:(true&&(decide ((0:Int)≤k)&&decide ((k:Int)<x.Ps.length)))=true:=by
  rw[tQ (by omega),tQ (by omega)];rfl
 refine⟨_,?_,?_,e3,e4,e5,rfl,rfl,bb,e6,e7,e8⟩
 ·unfold YP
  rw[Yw n x (by omega),bQ,zAK n x k true hb (by omega),bQ,there]
  simp only[nQ,fQ,zK hk,bQ,Int.toNat_natCast,e1]
 ·unfold zAo
  rw[Qk n x (by omega),bQ,zBY n x k true h2 (by omega),bQ,there]
  simp only[cQ,zK hk,bQ,Int.toNat_natCast,e2]
theorem zJi(n:Nat)(x:zA)(k:Nat)(u:Vec)(wx:x.wf)(hx:x.sz≤1048576)(hn:1048577<n)(hb:zg n x=some true)(hk:k<x.Ps.length)(hu:x.Ps[k].Up=true)(hv:qK n u=some true):∃y:zA,Zm n x k u=some y∧YL n x k u=some y∧zg n y=some true∧y.wf∧y.sz≤x.sz∧y.Id=x.Id∧y.Ps=x.Ps.set k ⟨true,x.Ps[k].Co,true,u⟩∧∃b,Zs n y.Id y.Ps=some b∧(∀u∈y.F,u.Sc=true∨∀j:Nat,j<y.Ps.length→zMn b j=false→u.Port≠j)∧y.F.Sublist x.F:=by
 have hs:x.Name.size+x.Ps.length+x.F.length+x.V.sz=x.sz:=rfl
 obtain⟨b,h1,h2⟩:=Z8 n x wx (by omega) (by omega)
 rw[hb]at h1
 obtain rfl:=Option.some.inj h1
 obtain⟨p1,p2,p3,p4,p5,p6,p7,p8,p9,p10,p11,p12,p13⟩:=qF n x (by omega) hb
 have hc:=(JO n _ (p13 k hk)).1
 have wk:=(wx.2.2.1.2 _ (List.getElem_mem hk))
 have wu:=zCs n u hv
 obtain⟨zs,v,bb,e1,e2,e3,e4,e5,e6,e7,e8⟩:=zON n x hn wx hx hb (x.Ps.set k ⟨true,x.Ps[k].Co,true,u⟩) (by simp) (zOJ (P:=fun q=>qZ n q=some true) p13 (zEs n _ u hc hv)) (zDa wx.2.2.1 ⟨wk.1,wu.1,wu.2.1,wu.2.2.1,wu.2.2.2.1,wu.2.2.2.2.1,trivial⟩) x.F (Nat.le_refl _) (zDd n x.F (by omega) p6) x.Tk p8.1 p8.2
 have there:(true&&(decide ((0:Int)≤k)&&decide ((k:Int)<x.Ps.length)))=true:=by
  rw[tQ (by omega),tQ (by omega)];rfl
 have hi:idx (x.Ps.set k ⟨x.Ps[k].Up,x.Ps[k].Co,true,x.Ps[k].Hd⟩) (k:Int)=some ⟨x.Ps[k].Up,x.Ps[k].Co,true,x.Ps[k].Hd⟩:=by
  rw[zK (by simpa using hk)];simp
 have hi':idx (x.Ps.set k ⟨true,x.Ps[k].Co,true,x.Ps[k].Hd⟩) (k:Int)=some ⟨true,x.Ps[k].Co,true,x.Ps[k].Hd⟩:=by
  rw[zK (by simpa using hk)];simp
 refine⟨_,?_,?_,e3,e4,e5,rfl,rfl,bb,e6,e7,e8⟩
 ·unfold Zm
  rw[Yw n x (by omega),bQ,zAK n x k true hb (by omega),bQ,there]
  simp only[nQ,fQ,zK hk,bQ,Int.toNat_natCast,hu,hv,hi,hi',List.set_set,e1]
 ·unfold YL
  rw[Qk n x (by omega),bQ,zBY n x k true h2 (by omega),bQ,there]
  simp only[zAa,zCj,cQ,zK hk,bQ,Int.toNat_natCast,hu,hv,hi,hi',List.set_set,e2]
theorem zMz(n:Nat)(x:zA)(wx:x.wf)(hx:x.sz≤1048576)(hn:1048577<n)(hb:zg n x=some true):∃y:zA,zDk n x=some y∧zGe n x=some y∧zg n y=some true∧y.wf∧y.sz≤x.sz∧y.Id=x.Id∧y.Ps=x.Ps∧(x.Tk<1000000→y.Tk=x.Tk+1)∧∃b,Zs n y.Id y.Ps=some b∧(∀u∈y.F,u.Sc=true∨∀j:Nat,j<y.Ps.length→zMn b j=false→u.Port≠j)∧y.F.Sublist (x.F.filterMap zMm):=by
 have hs:x.Name.size+x.Ps.length+x.F.length+x.V.sz=x.sz:=rfl
 obtain⟨b,h1,h2⟩:=Z8 n x wx (by omega) (by omega)
 rw[hb]at h1
 obtain rfl:=Option.some.inj h1
 obtain⟨p1,p2,p3,p4,p5,p6,p7,p8,p9,p10,p11,p12,p13⟩:=qF n x (by omega) hb
 have hf:=zDd n x.F (by omega) p6
 obtain⟨fs,a1,a2,a3⟩:=zIg n x.F (by omega) (by omega) (fun v hv=>by have:=(hf.2.1 v hv).2.2.2.1;omega)
 rw[zDK n x.F hf (by omega)]at a1
 obtain rfl:=Option.some.inj a1
 obtain⟨t,t1,t2,t3,t4⟩:=zIC n x.Tk p8.1 p8.2
 obtain⟨zs,v,bb,e1,e2,e3,e4,e5,e6,e7,e8⟩:=zON n x hn wx hx hb x.Ps rfl p13 wx.2.2.1 (x.F.filterMap zMm) a3 hf.age t t3 t4
 refine⟨_,?_,?_,e3,e4,e5,rfl,rfl,fun hlt=>?_,bb,e6,e7,e8⟩
 ·unfold zDk
  simp only[Yw n x (show x.sz≤268435456 by omega),hb,zDK n x.F hf (show 12<n by omega),t1,bQ,nQ,fQ,e1]
 ·unfold zGe
  simp only[Qk n x (show x.sz≤268435456 by omega),h2,a2,t2,bQ,cQ,e2]
 ·unfold zAY at t1
  rw[dQ (by omega),fQ,wQ]at t1
  exact(Option.some.inj t1).symm
def zOC(n:Nat)(x:Net)(s:Say):Prop:=(0≤s.Link∧s.Link<x.Ls.length)∧qK n s.V=some true
def zSU(n:Nat)(x:Net):Prop:=∀s∈x.Said,zOC n x s
theorem zBd(n:Nat)(x:Net)(wx:x.wf)(h:Big x)(hn:1048700<n):∃b,Qb n x=some b∧zAP n x=some b∧(b=true↔zPU n x∧zSU n x):=by
 have⟨hl1,hl2,hl3,hl4⟩:=h
 obtain⟨bB,eB,iB⟩:=zG0 n x wx h hn
 have hsaid:∃bS:Bool,(∃o,Zo n n x 0=some o∧YN n n x 0=some o∧(o=.inl ()∧bS=true∨o=.inr false∧bS=false))∧(bS=true↔zSU n x):=by
  have step:∀m (k:Nat) (hk:k<x.Said.length),∃b:Bool,Zo n (m+1) x k=(bif b then Zo n m x ((k+1:Nat):Int)else some (.inr false))∧YN n (m+1) x k=(bif b then YN n m x ((k+1:Nat):Int)else some (.inr false))∧(b=true↔zOC n x x.Said[k]):=fun m k hk=>by
   obtain⟨c,hc⟩:=zB9 n x.Said[k].V
   rw[Zo,YN,qU hk,zK hk]
   simp only[cQ,bQ,qe,Z3 n _ _ (show x.Ls.length≤1048600 by omega),zCj,hc,vQ k]
   by_cases hr:0≤x.Said[k].Link∧x.Said[k].Link<x.Ls.length
   ·rw[tQ hr]
    cases c with
    |false=>exact⟨false,rfl,rfl,⟨fun e=>(by cases e),fun e=>absurd (hc.symm.trans e.2) (by simp)⟩⟩
    |true=>exact⟨true,rfl,rfl,⟨fun _=>⟨hr,hc⟩,fun _=>rfl⟩⟩
   ·rw[dQ hr];exact⟨false,rfl,rfl,⟨fun e=>(by cases e),fun e=>absurd e.1 hr⟩⟩
  have all:∀(m k:Nat),k≤x.Said.length→x.Said.length<m+k→∃o,Zo n m x k=some o∧YN n m x k=some o∧((o=.inl ()∧∀j (hj:j<x.Said.length),k≤j→zOC n x x.Said[j])∨(o=.inr false∧∃j,∃hj:j<x.Said.length,¬zOC n x x.Said[j])):=by
   intro m
   induction m with
   |zero=>intro k h1 h2;omega
   | succ m ih =>
    intro k h1 h2
    by_cases hk:k<x.Said.length
    ·obtain⟨b,e1,e2,e3⟩:=step m k hk
     rw[e1,e2]
     cases b with
     |true=>
      obtain⟨o,f1,f2,f3⟩:=ih (k+1) (by omega) (by omega)
      refine⟨o,f1,f2,f3.imp (fun f=>⟨f.1,fun j hj hkj=>?_⟩) id⟩
      by_cases hjk:j=k
      ·subst hjk;exact e3.1 rfl
      ·exact f.2 j hj (by omega)
     |false=>exact⟨_,rfl,rfl,.inr ⟨rfl,k,hk,fun hc=>(by have:=e3.2 hc;cases this)⟩⟩
    ·have he:k=x.Said.length:=by omega
     subst he
     rw[Zo,YN,z6]
     exact⟨_,rfl,rfl,.inl ⟨rfl,fun j hj hkj=>by omega⟩⟩
  obtain⟨o,e1,e2,e3⟩:=all n 0 (by omega) (by omega)
  rcases e3 with⟨e3,e4⟩|⟨e3,j,hj,e4⟩
  ·refine⟨true,⟨o,e1,e2,.inl ⟨e3,rfl⟩⟩,⟨fun _ s hs=>?_,fun _=>rfl⟩⟩
   obtain⟨j,hj,rfl⟩:=List.getElem_of_mem hs
   exact e4 j hj (by omega)
  ·exact⟨false,⟨o,e1,e2,.inr ⟨e3,rfl⟩⟩,⟨fun e=>(by cases e),fun hc=>absurd (hc _ (List.getElem_mem hj)) e4⟩⟩
 obtain⟨bS,⟨oS,s1,s2,s3⟩,iS⟩:=hsaid
 have s1':Zo n n x 0=some oS:=s1
 have s2':YN n n x 0=some oS:=s2
 have l4:=JF (L:=fun m k=>ZZ n m x k) (N:=x.Ls.length) (P:=fun k=>∀hk:k<x.Ls.length,LOk x x.Ls[k]∧JA (JS x.Ls[k].A x.Ls[k].P) x.Ls=1∧JA (JS x.Ls[k].B x.Ls[k].Q) x.Ls=1) (fun m k hk=>zHj n x h hn m k hk) (fun m=>⟨(),by simp only[ZZ];rw[z6];rfl⟩) n 0 (by omega) (by omega)
 have l2:=JF (L:=fun m k=>Zj n m x k) (N:=x.Ls.length) (P:=fun k=>∀hk:k<x.Ls.length,k<9∧LOk x x.Ls[k]∧(x.Ls.take k).any (ZU x.Ls[k].A x.Ls[k].P)=false∧(x.Ls.take k).any (ZU x.Ls[k].B x.Ls[k].Q)=false) (fun m k hk=>zGz n x h hn m k hk) (fun m=>⟨(),by simp only[Zj];rw[z6];rfl⟩) n 0 (by omega) (by omega)
 have lB:=JF (L:=fun m k=>Qi n m x k) (N:=x.Bs.length) (P:=BOk n x) (fun m k hk=>zHf n x wx h hn m k hk) (fun m=>⟨(),by simp only[Qi];rw[z6];rfl⟩) n 0 (by omega) (by omega)
 have hiff:(x.Ls.length≤9∧∀j,0≤j→j<x.Ls.length→∀hk:j<x.Ls.length,LOk x x.Ls[j]∧JA (JS x.Ls[j].A x.Ls[j].P) x.Ls=1∧JA (JS x.Ls[j].B x.Ls[j].Q) x.Ls=1)↔
   (∀j,0≤j→j<x.Ls.length→∀hk:j<x.Ls.length,j<9∧LOk x x.Ls[j]∧(x.Ls.take j).any (ZU x.Ls[j].A x.Ls[j].P)=false∧(x.Ls.take j).any (ZU x.Ls[j].B x.Ls[j].Q)=false):=by
  constructor
  ·rintro⟨h9,hc⟩ j _ hj hj'
   have hne:∀l∈x.Ls,l.A≠l.B:=fun l hl=>by
    obtain⟨i,hi,rfl⟩:=List.getElem_of_mem hl
    exact(hc i (by omega) hi hi).1.1
   exact⟨by omega,(hc j (by omega) hj hj).1,(zLw x.Ls hne).1 (fun k hk=>(hc k (by omega) hk hk).2) j hj⟩
  ·intro hc
   have hne:∀l∈x.Ls,l.A≠l.B:=fun l hl=>by
    obtain⟨i,hi,rfl⟩:=List.getElem_of_mem hl
    exact(hc i (by omega) hi hi).2.1.1
   refine⟨?_,fun j _ hj _=>⟨(hc j (by omega) hj hj).2.1,(zLw x.Ls hne).2 (fun k hk=>(hc k (by omega) hk hk).2.2) j hj⟩⟩
   by_cases h0:x.Ls.length=0
   ·omega
   ·have:=(hc (x.Ls.length-1) (by omega) (by omega) (by omega)).1
    omega
 have hS:∀(bb:Bool),(bif decide ((x.Said.length:Int)>40)then(some false:Option Bool)else some bb)=some (decide (x.Said.length≤40)&&bb):=fun bb=>by
  by_cases h40:x.Said.length≤40
  ·rw[dQ (by omega),tQ h40];cases bb<;>rfl
  ·rw[tQ (by omega),dQ h40];rfl
 have hn6:(decide ((1:Int)≤(x.Bs.length:Int))&&decide ((x.Bs.length:Int)≤6))=decide (1≤x.Bs.length∧x.Bs.length≤6):=by
  by_cases h6:1≤x.Bs.length∧x.Bs.length≤6
  ·rw[tQ h6,tQ (by omega),tQ (by omega)];rfl
  ·rw[dQ h6];simp only[Bool.and_eq_false_iff,decide_eq_false_iff_not];omega
 have hL:∀(b':Bool),(bif decide ((x.Ls.length:Int)>9)then(some false:Option Bool)else some b')=some (decide (x.Ls.length≤9)&&b'):=fun b'=>by
  by_cases h9:x.Ls.length≤9
  ·rw[dQ (by omega),tQ h9];cases b'<;>rfl
  ·rw[tQ (by omega),dQ h9];rfl
 have hN:∀(c b':Bool),(bif !c then(some false:Option Bool)else some b')=some (c&&b'):=fun c b'=>by cases c<;>rfl
 have hJ1:zAv n x=some bS:=by
  unfold zAv
  rw[s1']
  rcases s3 with⟨rfl,rfl⟩|⟨rfl,rfl⟩<;>rfl
 have hspec:∃b4:Bool,Qb n x=some (bB&&(decide (x.Ls.length≤9)&&(decide (x.Said.length≤40)&&(b4&&bS))))∧(b4=true↔∀j,0≤j→j<x.Ls.length→∀hk:j<x.Ls.length,LOk x x.Ls[j]∧JA (JS x.Ls[j].A x.Ls[j].P) x.Ls=1∧JA (JS x.Ls[j].B x.Ls[j].Q) x.Ls=1):=by
  unfold Qb
  rw[eB,bQ]
  rcases l4 with⟨a,e,p⟩|⟨e,p⟩
  ·rw[show ZZ n n x 0= _ from e]
   refine⟨true,?_,⟨fun _=>p,fun _=>rfl⟩⟩
   simp only[bQ,hJ1,hS,hL,hN,Bool.true_and]
  ·rw[show ZZ n n x 0= _ from e]
   refine⟨false,?_,⟨fun hc=>(by cases hc),fun hc=>absurd hc p⟩⟩
   simp only[bQ,hS,hL,hN,Bool.false_and]
 have hlk:∃b2:Bool,zFe n x=some b2∧(b2=true↔(∀j,0≤j→j<x.Ls.length→∀hk:j<x.Ls.length,j<9∧LOk x x.Ls[j]∧(x.Ls.take j).any (ZU x.Ls[j].A x.Ls[j].P)=false∧(x.Ls.take j).any (ZU x.Ls[j].B x.Ls[j].Q)=false)):=by
  unfold zFe
  rcases l2 with⟨a,e,p⟩|⟨e,p⟩
  ·rw[show Zj n n x 0= _ from e];exact⟨true,rfl,⟨fun _=>p,fun _=>rfl⟩⟩
  ·rw[show Zj n n x 0= _ from e];exact⟨false,rfl,⟨fun hc=>(by cases hc),fun hc=>absurd hc p⟩⟩
 obtain⟨b2,e2,i2⟩:=hlk
 have hJ2:zFc n x=some (bS&&b2):=by
  unfold zFc
  rw[s2']
  rcases s3 with⟨rfl,rfl⟩|⟨rfl,rfl⟩
  ·simp only[bQ,zH8,e2,Bool.true_and]
  ·rfl
 have himpl:∃bb:Bool,zAP n x=some (decide (1≤x.Bs.length∧x.Bs.length≤6)&&(decide (x.Said.length≤40)&&(bb&&(bS&&b2))))∧(bb=true↔∀j,0≤j→j<x.Bs.length→BOk n x j):=by
  unfold zAP
  rw[qe,zV,bQ,hn6]
  rcases lB with⟨a,e,p⟩|⟨e,p⟩
  ·rw[show Qi n n x 0= _ from e]
   refine⟨true,?_,⟨fun _=>p,fun _=>rfl⟩⟩
   simp only[bQ,hJ2,hS,hN,Bool.true_and]
  ·rw[show Qi n n x 0= _ from e]
   refine⟨false,?_,⟨fun hc=>(by cases hc),fun hc=>absurd hc p⟩⟩
   simp only[bQ,hS,hN,Bool.false_and]
 obtain⟨b4,e4,i4⟩:=hspec
 obtain⟨bb,eb,ib⟩:=himpl
 have heq:(bB&&(decide (x.Ls.length≤9)&&(decide (x.Said.length≤40)&&(b4&&bS))))=(decide (1≤x.Bs.length∧x.Bs.length≤6)&&(decide (x.Said.length≤40)&&(bb&&(bS&&b2)))):=by
  rw[Bool.eq_iff_iff]
  simp only[Bool.and_eq_true,decide_eq_true_eq,iB,i4,ib,i2]
  constructor
  ·rintro⟨⟨h1,h2⟩,h3,h4,h5,h6⟩
   exact⟨h2,h4,fun j _ hj=>h1 j hj,h6,hiff.1 ⟨h3,h5⟩⟩
  ·rintro⟨h2,h4,h1,h6,h7⟩
   obtain⟨h3,h5⟩:=hiff.2 h7
   exact⟨⟨fun k hk=>h1 k (by omega) hk,h2⟩,h3,h4,h5,h6⟩
 refine⟨_,e4,by rw[heq];exact eb,⟨fun hc=>?_,fun⟨⟨h1,h2,h3,h4,h5⟩,h6⟩=>?_⟩⟩
 ·simp only[Bool.and_eq_true,decide_eq_true_eq,iB,i4,iS]at hc
  obtain⟨⟨h1,h2⟩,h3,h4,h5,h6⟩:=hc
  exact⟨⟨h1,h2,h3,h4,fun k hk=>h5 k (by omega) hk hk⟩,h6⟩
 ·simp only[Bool.and_eq_true,decide_eq_true_eq,iB,i4,iS]
  exact⟨⟨h1,h2⟩,h3,h4,fun j _ hj hk=>h5 j hk,h6⟩
end Go.Proofs.YticeglbllcelaaaGreat.Tw
