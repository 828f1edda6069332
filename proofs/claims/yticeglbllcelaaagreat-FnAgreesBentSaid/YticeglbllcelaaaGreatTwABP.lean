import Derived.Test.YticeglbllcelaaaGreatTwABP0
import Derived.Test.YticeglbllcelaaaGreatTlPlain
set_option linter.unusedVariables false
set_option linter.unusedSimpArgs false
set_option maxRecDepth 100000
set_option maxHeartbeats 1000000
namespace Go.Proofs.YticeglbllcelaaaGreat.Tw
open Go Go.TL Go.Proofs
theorem zII(n:Nat)(v:Vec):qK n v=some true↔(1≤v.Root∧v.Root≤99)∧(0≤v.Co∧v.Co≤100000)∧(0≤v.Hops∧v.Hops≤10)∧(1≤v.Bridge∧v.Bridge≤99)∧(0≤v.Port∧v.Port≤7):=by
 have two:∀ {a b c:Int},(decide (a≤b)&&decide (b≤c))=true↔a≤b∧b≤c:=fun {a b c} =>by rw[Bool.and_eq_true,decide_eq_true_eq,decide_eq_true_eq]
 unfold qK
 simp only[zV,bQ]
 constructor
 ·intro h
  obtain⟨h1,h⟩:=zJY h
  obtain⟨h2,h⟩:=zJY h
  obtain⟨h3,h⟩:=zJY h
  obtain⟨h4,h⟩:=zJY h
  have h5:=Option.some.inj h
  exact⟨two.1 h1,two.1 h2,two.1 h3,two.1 h4,two.1 h5⟩
 ·rintro⟨h1,h2,h3,h4,h5⟩
  rw[two.2 h1,two.2 h2,two.2 h3,two.2 h4,two.2 h5]
  rfl
theorem zJn(n:Nat)(v w:Vec)(c:Int)(h:Yt n v c=some (w,true)):qK n w=some true:=by
 unfold Yt at h
 obtain⟨b1,h1,h⟩:=bind_some h
 cases b1 with
 |false=>cases h
 | true =>
  obtain⟨b2,h2,h⟩:=bind_some h
  cases b2 with
  |false=>cases h
  |true=>
   obtain⟨b3,h3,h⟩:=bind_some h
   cases b3 with
   |false=>cases h
   |true=>cases h;exact h3
def zT0(a b c:Int):Prop:=(1≤a∧a≤99)∧(0≤b∧b≤100000)∧(0≤c∧c≤10)
theorem zEB(n:Nat)(x0:Int)(x1:List Pt):∀(m:Nat) (y1 y2 y3 y4 y5 y6 y7 y8 y9 y10:Int) (o:(Int×Int×Int×Int)⊕(Vec×Int)),zT0 y8 y9 y10→qR n m x0 x1 y1 y2 y3 y4 y5 y6 y7 y8 y9 y10=some o→∃z2 z8 z9 z10,o=.inl (z2,z8,z9,z10)∧zT0 z8 z9 z10
 |0,y1,y2,y3,y4,y5,y6,y7,y8,y9,y10,o,hr,e=>by cases e
 | m + 1,y1,y2,y3,y4,y5,y6,y7,y8,y9,y10,o,hr,e => by
  have ih:=zEB n x0 x1 m
  rw[qR]at e
  cases hl:decide (y1<(x1.length:Int))with
  |false=>rw[hl]at e;cases e;exact⟨_,_,_,_,rfl,hr⟩
  | true =>
   rw[hl,cQ]at e
   obtain⟨v,_,e⟩:=bind_some e
   cases hu:(!v.Up)with
   |true=>rw[hu]at e;exact ih _ _ _ _ _ _ _ _ _ _ _ hr e
   | false =>
    rw[hu,fQ]at e
    obtain⟨v1,_,e⟩:=bind_some e
    cases hh:(!v1.Has)with
    |true=>rw[hh]at e;exact ih _ _ _ _ _ _ _ _ _ _ _ hr e
    | false =>
     rw[hh,fQ]at e
     obtain⟨v2,_,e⟩:=bind_some e
     obtain⟨v3,_,e⟩:=bind_some e
     obtain⟨⟨w,ok⟩,hw,e⟩:=bind_some e
     simp only at e
     cases ok with
     |false=>exact ih _ _ _ _ _ _ _ _ _ _ _ hr e
     | true =>
      have hv:=(zII n w).1 (zJn n _ _ _ hw)
      have hr':zT0 w.Root w.Co w.Hops:=⟨hv.1,hv.2.1,hv.2.2.1⟩
      rw[cQ]at e
      cases hd:decide (w.Root<x0)with
      |false=>rw[hd]at e;exact ih _ _ _ _ _ _ _ _ _ _ _ hr e
      | true =>
       rw[hd,cQ]at e
       cases hd2:decide (y2<0)with
       |true=>rw[hd2]at e;exact ih _ _ _ _ _ _ _ _ _ _ _ hr' e
       |false=>
        rw[hd2,fQ]at e
        obtain⟨c,_,e⟩:=bind_some e
        cases c with
        |true=>exact ih _ _ _ _ _ _ _ _ _ _ _ hr' e
        |false=>exact ih _ _ _ _ _ _ _ _ _ _ _ hr e
theorem zKs(n:Nat)(id:Int)(l:List Pt)(p:Int)(h0:1≤id)(h1:id≤99)(hl:l.length≤1048576)(hn:l.length<n)(p0:0≤p)(p7:p≤7):∃v,ZF n id l p=some v∧qK n v=some true∧v.wf:=by
 obtain⟨⟨v,q⟩,e⟩:=zA1 n id l hl hn
 have e':=e
 unfold Qm at e'
 obtain⟨o,ho,e'⟩:=bind_some e'
 obtain⟨z2,z8,z9,z10,rfl,hr⟩:=zEB n id l n _ _ _ _ _ _ _ _ _ _ o ⟨⟨h0,h1⟩,⟨by omega,by omega⟩,⟨by omega,by omega⟩⟩ ho
 cases e'
 have hok:qK n (⟨z8,z9,z10,id,p⟩:Vec)=some true:=(zII n _).2 ⟨hr.1,hr.2.1,hr.2.2,⟨h0,h1⟩,⟨p0,p7⟩⟩
 refine⟨⟨z8,z9,z10,id,p⟩,?_,hok,zCs n _ hok⟩
 unfold ZF
 rw[e]
 rfl
theorem zHJ(n:Nat)(x:zA)(hx:x.sz≤1048576)(h:zg n x=some true):x.sz≤40:=by
 have hs:x.Name.size+x.Ps.length+x.F.length+x.V.sz=x.sz:=rfl
 have hs2:x.V.Rows.length+x.V.Pv.length=x.V.sz:=rfl
 obtain⟨p1,p2,p3,p4,p5,p6,p7,_⟩:=qF n x (by omega) h
 have h1:=(zDd n x.F (by omega) p6).1
 have h2:=zFz n x.V _ p7
 omega
def Q0(n:Nat)(x:Net):Prop:=x.wf∧Big x∧zPU n x∧zSU n x
theorem Q0.ok{n:Nat}{x:Net}(hn:1048700<n)(h:Q0 n x):Qb n x=some true∧zAP n x=some true:=by
 obtain⟨b,e1,e2,e3⟩:=zBd n x h.1 h.2.1 hn
 rw[e3.2 ⟨h.2.2.1,h.2.2.2⟩]at e1 e2
 exact⟨e1,e2⟩
theorem Big.of{x:Net}(h:x.sz≤1048576):Big x:=by
 have hs:(x.Bs.length+Ju zA.sz x.Bs)+x.Ls.length+x.Said.length=x.sz:=rfl
 exact⟨by omega,fun a ha=>by have:=zE1 (sz:=zA.sz) ha;omega,by omega,by omega⟩
theorem Q0.of{n:Nat}{x:Net}(hn:1048700<n)(wx:x.wf)(h:Big x)(e:Qb n x=some true):Q0 n x:=by
 obtain⟨b,e1,_,e3⟩:=zBd n x wx h hn
 rw[e]at e1
 have:=e3.1 (Option.some.inj e1).symm
 exact⟨wx,h,this.1,this.2⟩
theorem zNW(n:Nat)(x:Net)(wx:x.wf)(h:Big x)(hn:1048700<n):∃b,Qb n x=some b∧zAP n x=some b∧(b=true→zPU n x)∧(x.Said=[]→zPU n x→b=true):=by
 obtain⟨b,e1,e2,e3⟩:=zBd n x wx h hn
 exact⟨b,e1,e2,fun hb=>(e3.1 hb).1,fun hs hc=>e3.2 ⟨hc,fun s hs'=>by rw[hs]at hs';cases hs'⟩⟩
theorem zJk(n:Nat)(x:Net)(wx:x.wf)(h:x.sz≤1048576)(hn:1048700<n):∃b,Qb n x=some b∧zAP n x=some b∧(b=true→zPU n x):=by
 obtain⟨b,e1,e2,e3⟩:=zBd n x wx (Big.of h) hn
 exact⟨b,e1,e2,fun hb=>(e3.1 hb).1⟩
theorem zJl(n:Nat)(x:Net)(wx:x.wf)(hx:x.sz≤1048576)(hn:1048700<n):∃y:Net,zDz n x=some y∧zHU n x=some y∧y.sz≤x.sz∧y.wf:=by
 have hs:(x.Bs.length+Ju zA.sz x.Bs)+x.Ls.length+x.Said.length=x.sz:=rfl
 obtain⟨b,h1,h2,_⟩:=zJk n x wx hx (by omega)
 unfold zDz zHU
 rw[zDL n x (by omega) (by omega),zDJ n x (by omega) (by omega),h1,h2]
 cases b with
 |false=>exact⟨x,rfl,rfl,Nat.le_refl _,wx⟩
 |true=>
  obtain⟨zs,⟨b1,b2,b3⟩,r1,r2⟩:=zCJ n x wx hx (by omega) n 0 x.Bs (HB.self wx) (by omega) (by omega)
  simp only[bQ,nQ,fQ]
  rw[show YR n n x 0 x.Bs x.Ls []= _ from r1,show zAq n n x 0 x.Bs x.Ls []= _ from r2]
  refine⟨⟨zs,x.Ls,[]⟩,rfl,rfl,?_,⟨by rw[b1];exact wx.1.1,b2⟩,wx.2.1,⟨by simp,by simp⟩,trivial⟩
  show(zs.length+Ju zA.sz zs)+x.Ls.length+([]:List Say).length≤x.sz
  simp only[List.length_nil]
  omega
theorem zEE(n:Nat)(z:Int)(s:Nat)(hs:s≤1048576)(hn:1048700<n):∀(m k:Nat) (y:Net),y.wf→y.sz≤s→k≤30→30<m+k→∃w:Net,w.wf∧w.sz≤s∧YX n m z k y.Bs y.Ls y.Said=some (.inl (w.Bs,w.Ls,w.Said))∧zBH n m z k y.Bs y.Ls y.Said=some (.inl (w.Bs,w.Ls,w.Said))
 |0,k,y,wy,hy,h1,h2=>by omega
 | m + 1,k,y,wy,hy,h1,h2 => by
  rw[YX,zBH]
  by_cases hk:(k:Int)<z∧(k:Int)<30
  ·have hi:(k:Int)<(if(if 30<z then 30 else z)>0 then(if 30<z then 30 else z)else 0):=by split<;>split at* <;>omega
   obtain⟨w,e1,e2,e3,e4⟩:=zJl n y wy (by omega) hn
   obtain⟨v,f1,f2,f3,f4⟩:=zEE n z s hs hn m (k+1) w e4 (by omega) (by omega) (by omega)
   refine⟨v,f1,f2,?_,?_⟩
   ·simp only[tQ hk.1,tQ hk.2,cQ,e1,bQ,vQ k,f3]
   ·simp only[tQ hi,cQ,e2,bQ,vQ k,f4]
  ·have hi:¬(k:Int)<(if(if 30<z then 30 else z)>0 then(if 30<z then 30 else z)else 0):=by split<;>split at* <;>omega
   refine⟨y,wy,hy,?_,?_⟩
   ·by_cases h:(k:Int)<z
    ·rw[tQ h,dQ (by omega)];rfl
    ·rw[dQ h];rfl
   ·rw[dQ hi];rfl
theorem zIj(n:Nat)(x:Net)(z:Int)(wx:x.wf)(hx:x.sz≤1048576)(hn:1048700<n):∃y:Net,zC4 n x z=some y∧zIy n x z=some y∧y.sz≤x.sz∧y.wf:=by
 obtain⟨w,f1,f2,f3,f4⟩:=zEE n z x.sz hx hn n 0 x wx (Nat.le_refl _) (by omega) (by omega)
 unfold zC4 zIy
 rw[zDL n x (by omega) (by omega),zDJ n x (by omega) (by omega),bQ,bQ,show YX n n z 0 x.Bs x.Ls x.Said= _ from f3,show zBH n n z 0 x.Bs x.Ls x.Said= _ from f4]
 exact⟨w,rfl,rfl,f2,f1⟩
theorem Q0.br{n:Nat}{x:Net}(h:Q0 n x){i:Nat}(hi:i<x.Bs.length):zg n x.Bs[i]=some true∧x.Bs[i].wf∧x.Bs[i].sz≤40:=by
 have hok:=(h.2.2.1.1 i hi hi).1
 exact⟨hok,h.1.1.2 _ (List.getElem_mem hi),zHJ n _ (h.2.1.2.1 _ (List.getElem_mem hi)) hok⟩
theorem zMf{α:Type}{sz:α→Nat}{c:Nat} :∀(xs:List α),(∀v∈xs,sz v≤c)→Ju sz xs≤c*xs.length
 |[],_=>Nat.zero_le _
 |x::xs,h=>by
  have h1:=h x (by simp)
  have h2:=zMf xs fun v hv=>h v (by simp[hv])
  simp only[Ju,List.length_cons,Nat.mul_succ]
  omega
theorem Q0.sz{n:Nat}{x:Net}(h:Q0 n x):x.sz≤400:=by
 have hs:(x.Bs.length+Ju zA.sz x.Bs)+x.Ls.length+x.Said.length=x.sz:=rfl
 have h1:=zMf (sz:=zA.sz) (c:=40) x.Bs fun v hv=>by
  obtain⟨i,hi,rfl⟩:=List.getElem_of_mem hv
  exact(h.br hi).2.2
 have h2:=h.2.2.1.2.1
 have h3:=h.2.2.1.2.2.1
 have h4:=h.2.2.1.2.2.2.1
 omega
theorem zE4{α:Type}{xs:List α}{i:Nat}(hi:i<xs.length)(v:α)(b:Int):idx (xs.set i v) b=if b=(i:Int)then some v else idx xs b:=by
 by_cases hb:b=(i:Int)
 ·subst hb
  rw[if_pos rfl,zK (by simpa using hi)]
  simp
 ·rw[if_neg hb]
  unfold idx
  by_cases h0:0≤b
  ·rw[if_pos h0,if_pos h0,List.getElem?_set_ne (by omega)]
  ·rw[if_neg h0,if_neg h0]
theorem zIY{bs:List zA}{ls:List Link}{ss ss':List Say}{i:Nat}(hi:i<bs.length)(v:zA)(b p:Int):ZQ ⟨bs.set i v,ls,ss⟩ b p=if b=(i:Int)then idx v.Ps p else ZQ ⟨bs,ls,ss'⟩ b p:=by
 unfold ZQ
 rw[zE4 hi]
 split<;>rfl
def zJt(x:Net)(b p:Int):Option Bool:=(ZQ x b p).map (·.Up)
theorem zOH{n:Nat}{x:Net}(hx:Q0 n x)(bs:List zA)(ss:List Say)(hb:bs.length=x.Bs.length)
  (each:∀i (hi:i<x.Bs.length) (hi':i<bs.length),zg n bs[i]=some true∧bs[i].wf∧bs[i].sz≤1048576∧bs[i].Id=x.Bs[i].Id∧bs[i].Ps.length=x.Bs[i].Ps.length∧∀p (hp:p<bs[i].Ps.length),bs[i].Ps[p].Has=true→x.Ls.any (ZU i p)=true)
  (up:∀l∈x.Ls,zJt ⟨bs,x.Ls,ss⟩ l.A l.P=zJt ⟨bs,x.Ls,ss⟩ l.B l.Q) (s40:ss.length≤40) (said:∀s∈ss,zOC n x s∧s.wf):Q0 n ⟨bs,x.Ls,ss⟩:=by
 obtain⟨wx,⟨g1,g2,g3,g4⟩,⟨c1,c2,c3,c4,c5⟩,c6⟩:=hx
 have hm:maxLen=9223372036854775807:=by decide
 refine⟨⟨⟨by simp only;omega,fun v hv=>?_⟩,wx.2.1,⟨by simp only;omega,fun s hs=>(said s hs).2⟩,trivial⟩,⟨by simp only;omega,fun v hv=>?_,g3,by simp only;omega⟩,⟨fun k hk hk'=>?_,by simp only;omega,c3,s40,fun k hk=>?_⟩,fun s hs=>(said s hs).1⟩
 ·obtain⟨i,hi,rfl⟩:=List.getElem_of_mem hv
  have hi:i<bs.length:=hi
  exact(each i (by omega) hi).2.1
 ·obtain⟨i,hi,rfl⟩:=List.getElem_of_mem hv
  have hi:i<bs.length:=hi
  exact(each i (by omega) hi).2.2.1
 ·have hk':k<bs.length:=hk'
  obtain⟨e1,e2,e3,e4,e5,e6⟩:=each k (by omega) hk'
  refine⟨e1,fun j hj=>?_,fun p hp hh=>e6 p hp hh⟩
  have:=(c1 k (by omega) (by omega)).2.1 j hj
  have f:=(each j (by omega) (by omega)).2.2.2.1
  simp only at this⊢
  rw[f,e4];exact this
 ·obtain⟨⟨d1,p,q,d2,d3,d4⟩,d5⟩:=c5 k hk
  have u:=up x.Ls[k] (List.getElem_mem hk)
  have ex:∀ {b p:Int} {v:Pt},ZQ x b p=some v→∃w,ZQ ⟨bs,x.Ls,ss⟩ b p=some w:=fun {b p v} h=>by
   obtain⟨a,h1,h2⟩:=Y3 h
   obtain⟨i0,i1⟩:=zBh h1
   obtain⟨i,rfl⟩:=Int.eq_ofNat_of_zero_le i0
   have hi:i<x.Bs.length:=Int.ofNat_lt.1 i1
   rw[zK hi]at h1
   obtain rfl:=Option.some.inj h1
   obtain⟨j0,j1⟩:=zBh h2
   obtain⟨j,rfl⟩:=Int.eq_ofNat_of_zero_le j0
   have:=(each i hi (by omega)).2.2.2.2.1
   exact⟨_,by unfold ZQ;simp only;rw[zK (show i<bs.length by omega),bQ,zK (show j<bs[i].Ps.length by omega)]⟩
  obtain⟨p',e1⟩:=ex d2
  obtain⟨q',e2⟩:=ex d3
  refine⟨⟨d1,p',q',e1,e2,?_⟩,d5⟩
  unfold zJt at u
  rw[e1,e2]at u
  exact Option.some.inj u
theorem Q0.up{n:Nat}{x:Net}(hx:Q0 n x):∀l∈x.Ls,zJt x l.A l.P=zJt x l.B l.Q:=fun l hl=>by
 obtain⟨k,hk,rfl⟩:=List.getElem_of_mem hl
 obtain⟨_,p,q,e1,e2,e3⟩:=(hx.2.2.1.2.2.2.2 k hk).1
 unfold zJt
 rw[e1,e2]
 simp[e3]
theorem Q0.says{n:Nat}{x:Net}(hx:Q0 n x):∀s∈x.Said,zOC n x s∧s.wf:=fun s hs=>⟨hx.2.2.2 s hs,hx.1.2.2.1.2 s hs⟩
theorem Q0.self{n:Nat}{x:Net}(hx:Q0 n x):∀i (hi:i<x.Bs.length) (hi':i<x.Bs.length),zg n x.Bs[i]=some true∧x.Bs[i].wf∧x.Bs[i].sz≤1048576∧x.Bs[i].Id=x.Bs[i].Id∧x.Bs[i].Ps.length=x.Bs[i].Ps.length∧∀p (hp:p<x.Bs[i].Ps.length),x.Bs[i].Ps[p].Has=true→x.Ls.any (ZU i p)=true:=fun i hi _=>
 ⟨(hx.br hi).1,(hx.br hi).2.1,by have:=(hx.br hi).2.2;omega,rfl,rfl,(hx.2.2.1.1 i hi hi).2.2⟩
theorem zNV{n:Nat}{x:Net}(hx:Q0 n x)(ss:List Say)(s40:ss.length≤40)(said:∀s∈ss,zOC n x s∧s.wf):Q0 n ⟨x.Bs,x.Ls,ss⟩:=
 zOH hx x.Bs ss rfl hx.self (fun l hl=>hx.up l hl) s40 said
theorem zMZ{n:Nat}{x:Net}(hx:Q0 n x){i:Nat}(hi:i<x.Bs.length)(v:zA)(ok:zg n v=some true)(wv:v.wf)(sv:v.sz≤1048576)(hid:v.Id=x.Bs[i].Id)(hl:v.Ps.length=x.Bs[i].Ps.length)(has:∀p (hp:p<v.Ps.length),v.Ps[p].Has=true→x.Ls.any (ZU i p)=true)(hup:∀p:Int,(idx v.Ps p).map (·.Up)=(idx x.Bs[i].Ps p).map (·.Up))
  (ss:List Say) (s40:ss.length≤40) (said:∀s∈ss,zOC n x s∧s.wf):Q0 n ⟨x.Bs.set i v,x.Ls,ss⟩:=by
 refine zOH hx _ ss (by simp) (fun j hj hj'=>?_) (fun l hl=>?_) s40 said
 ·rw[List.getElem_set]
  by_cases h:i=j
  ·subst h
   simp only[if_true]
   exact⟨ok,wv,sv,hid,hl,has⟩
  ·simp only[if_neg h]
   have:=hx.self j hj hj
   exact⟨this.1,this.2.1,this.2.2.1,trivial,trivial,this.2.2.2.2.2⟩
 ·have key:∀b p,zJt ⟨x.Bs.set i v,x.Ls,ss⟩ b p=zJt x b p:=fun b p=>by
   unfold zJt
   rw[zIY hi v b p (ss':=x.Said)]
   split
   ·rename_i hb
    subst hb
    rw[hup p]
    unfold ZQ
    rw[zK hi,bQ]
   ·rfl
  rw[key,key]
  exact hx.up l hl
theorem zID(n:Nat)(x:Net)(b:Int)(p:Int):Yk n x b p=(idx x.Bs b).bind fun v=>(ZF n v.Id v.Ps p):=by
 unfold Yk
 cases idx x.Bs b with
 |none=>rfl
 |some v=>
  simp only[bQ,zB5]
  cases ZF n v.Id v.Ps p<;>rfl
theorem zF3(n:Nat)(x:Net){k:Nat}(hk:k<x.Ls.length)(back:Bool):QV n x k back=bif back then(idx x.Bs x.Ls[k].B).bind fun v=>ZF n v.Id v.Ps x.Ls[k].Q else(idx x.Bs x.Ls[k].A).bind fun v=>ZF n v.Id v.Ps x.Ls[k].P:=by
 unfold QV
 rw[zK hk,bQ]
 cases back with
 |true=>
  simp only[cQ]
  cases idx x.Bs x.Ls[k].B with
  |none=>rfl
  |some v=>simp only[bQ];cases ZF n v.Id v.Ps x.Ls[k].Q<;>rfl
 |false=>
  simp only[fQ]
  cases idx x.Bs x.Ls[k].A with
  |none=>rfl
  |some v=>simp only[bQ];cases ZF n v.Id v.Ps x.Ls[k].P<;>rfl
theorem zHb{α:Type}{xs:List α}{b:Int}{v:α}(h:idx xs b=some v):∃i:Nat,b=i∧∃hi:i<xs.length,xs[i]=v:=by
 obtain⟨i0,i1⟩:=zBh h
 obtain⟨i,rfl⟩:=Int.eq_ofNat_of_zero_le i0
 have hi:i<xs.length:=Int.ofNat_lt.1 i1
 rw[zK hi]at h
 exact⟨i,rfl,hi,Option.some.inj h⟩
theorem Q0.ends{n:Nat}{x:Net}(hx:Q0 n x){k:Nat}(hk:k<x.Ls.length):∃(a p b q:Nat) (ha:a<x.Bs.length) (hb:b<x.Bs.length),x.Ls[k].A=a∧x.Ls[k].P=p∧x.Ls[k].B=b∧x.Ls[k].Q=q∧a≠b∧p<x.Bs[a].Ps.length∧q<x.Bs[b].Ps.length∧p<6∧q<6:=by
 obtain⟨hne,p,q,e1,e2,_⟩:=(hx.2.2.1.2.2.2.2 k hk).1
 obtain⟨v,h1,h2⟩:=Y3 e1
 obtain⟨w,h3,h4⟩:=Y3 e2
 obtain⟨a,ea,ha,rfl⟩:=zHb h1
 obtain⟨p',ep,hp,_⟩:=zHb h2
 obtain⟨b,eb,hb,rfl⟩:=zHb h3
 obtain⟨q',eq,hq,_⟩:=zHb h4
 have:=(qF n _ (by have:=(hx.br ha).2.2;have hs:x.Bs[a].Name.size+x.Bs[a].Ps.length+x.Bs[a].F.length+x.Bs[a].V.sz=x.Bs[a].sz:=rfl;omega) (hx.br ha).1).2.1
 have:=(qF n _ (by have:=(hx.br hb).2.2;have hs:x.Bs[b].Name.size+x.Bs[b].Ps.length+x.Bs[b].F.length+x.Bs[b].V.sz=x.Bs[b].sz:=rfl;omega) (hx.br hb).1).2.1
 exact⟨a,p',b,q',ha,hb,ea,ep,eb,eq,fun h=>hne (by rw[ea,eb,h]),hp,hq,by omega,by omega⟩
theorem Q0.say{n:Nat}{x:Net}(hn:1048700<n)(hx:Q0 n x){i:Nat}(hi:i<x.Bs.length)(p:Nat)(hp:p<6):∃v,ZF n x.Bs[i].Id x.Bs[i].Ps p=some v∧qK n v=some true∧v.wf:=by
 have hs:x.Bs[i].Name.size+x.Bs[i].Ps.length+x.Bs[i].F.length+x.Bs[i].V.sz=x.Bs[i].sz:=rfl
 have h40:=(hx.br hi).2.2
 obtain⟨p1,p2,p3,p4,_⟩:=qF n _ (by omega) (hx.br hi).1
 exact zKs n _ _ p p3 p4 (by omega) (by omega) (by omega) (by omega)
theorem Q0.link{n:Nat}{x:Net}(hx:Q0 n x)(ss:List Say)(k:Int):∃b,qV n ⟨x.Bs,x.Ls,ss⟩ k=some b∧qD n ⟨x.Bs,x.Ls,ss⟩ k=some b:=by
 have h:=hx.sz
 obtain⟨b,e1,e2⟩:=JU n x k hx.1 (by omega)
 exact⟨b,e1,e2⟩
theorem zMF{n:Nat}(hn:1048700<n){x:Net}(hx:Q0 n x)(b:Int):∀(m k:Nat) (ss:List Say),k≤x.Ls.length→x.Ls.length<m+k→ss.length≤40→(∀s∈ss,zOC n x s∧s.wf)→∃zs,qn n m x b k ss=some (.inl zs)∧Zb n m x b k ss=some (.inl zs)∧zs.length≤40∧∀s∈zs,zOC n x s∧s.wf
 |0,k,ss,h1,h2,h3,h4=>by omega
 | m + 1,k,ss,h1,h2,h3,h4 => by
  rw[qn,Zb]
  by_cases hk:k<x.Ls.length
  ·have h9:=hx.2.2.1.2.2.1
   have ih:=fun ss h3 h4=>zMF hn hx b m (k+1) ss (by omega) (by omega) h3 h4
   obtain⟨u,u1,u2⟩:=hx.link ss k
   obtain⟨a,p,c,q,ha,hc,ea,ep,ec,eq,hac,hp,hq,hp6,hq6⟩:=hx.ends hk
   rw[qU hk,cQ,cQ,zK hk,bQ,u1,u2,bQ,bQ,vQ k]
   cases u with
   |false=>exact ih ss h3 h4
   | true =>
    simp only[nQ,fQ]
    by_cases h40:(ss.length:Int)≥40
    ·rw[tQ h40,cQ,cQ];exact ih ss h3 h4
    ·rw[dQ h40,fQ,fQ,bQ]
     have hg:∀s:Say,decide (ss.length+ [s].length≤268435456)=true:=fun s=>tQ (by simp;omega)
     have one:∀(bk:Bool) (v:Vec),qK n v=some true→v.wf→∀s∈ss++[(⟨k,bk,v⟩:Say)],zOC n x s∧s.wf:=fun bk v hv wv s hs=>by
      rcases List.mem_append.1 hs with hs|hs
      ·exact h4 s hs
      ·rw[List.mem_singleton]at hs
       subst hs
       exact⟨⟨⟨by simp only;omega,by simp only;omega⟩,hv⟩,iQ (z:=(k:Int)),wv.1,wv.2.1,wv.2.2.1,wv.2.2.2.1,wv.2.2.2.2.1,trivial⟩
     by_cases hA:x.Ls[k].A=b
     ·obtain⟨v,v1,v2,v3⟩:=hx.say hn ha p hp6
      have hB:(x.Ls[k].B==b)=false:=by
       rw[beq_eq_false_iff_ne]
       intro h
       rw[←hA,ea,ec]at h
       omega
      rw[show(x.Ls[k].A==b)=true from by simpa using hA,cQ,cQ,zF3 n ⟨x.Bs,x.Ls,ss⟩ hk false,fQ,zID]
      simp only[←hA,ea,ep,zK ha,bQ,v1,hg,cQ,Qd,zK hk,hA,hB,fQ,vQ k]
      rw[ea]at hA
      have hB':(x.Ls[k].B==(a:Int))=false:=by rw[beq_eq_false_iff_ne,ec];omega
      simp only[hB',hA,hB,fQ,nQ]
      exact ih _ (by simp;omega) (one false v v2 v3)
     ·rw[show(x.Ls[k].A==b)=false from by simpa using hA,fQ,fQ]
      simp only[Qd,zK hk,bQ,vQ k]
      by_cases hB:x.Ls[k].B=b
      ·obtain⟨v,v1,v2,v3⟩:=hx.say hn hc q hq6
       rw[show(x.Ls[k].B==b)=true from by simpa using hB,cQ,cQ,zF3 n ⟨x.Bs,x.Ls,ss⟩ hk true,cQ,zID]
       simp only[←hB,ec,eq,zK hc,bQ,v1,hg,cQ]
       rw[ec]at hB
       rw[hB]
       exact ih _ (by simp;omega) (one true v v2 v3)
      ·rw[show(x.Ls[k].B==b)=false from by simpa using hB,fQ,fQ]
       exact ih ss h3 h4
  ·obtain rfl:k=x.Ls.length:=by omega
   rw[z6]
   exact⟨ss,rfl,rfl,h3,h4⟩
theorem zPy{n:Nat}(hn:1048700<n){x:Net}(hx:Q0 n x)(b:Int):∃y,zAh n x b=some y∧zD6 n x b=some y∧Q0 n y∧y.Bs=x.Bs∧y.Ls=x.Ls:=by
 have h9:=hx.2.2.1.2.2.1
 obtain⟨zs,e1,e2,e3,e4⟩:=zMF hn hx b n 0 x.Said (by omega) (by omega) hx.2.2.1.2.2.2.1 hx.says
 refine⟨⟨x.Bs,x.Ls,zs⟩,?_,?_,zNV hx zs e3 e4,rfl,rfl⟩
 ·unfold zAh;rw[show qn n n x b 0 x.Said= _ from e1];rfl
 ·unfold zD6;rw[show Zb n n x b 0 x.Said= _ from e2];rfl
theorem zPc(ps:List Pt)(k:Nat)(hk:k<ps.length)(c:Int)(h:Bool)(v:Vec)(p:Int):(idx (ps.set k ⟨ps[k].Up,c,h,v⟩) p).map (·.Up)=(idx ps p).map (·.Up):=by
 rw[zE4 hk]
 split
 ·rename_i e
  subst e
  rw[zK hk];rfl
 ·rfl
theorem zNf{n:Nat}(hn:1048700<n){x:Net}(hx:Q0 n x){i p:Nat}(hi:i<x.Bs.length)(hp:p<x.Bs[i].Ps.length)(hup:x.Bs[i].Ps[p].Up=true)(hend:x.Ls.any (ZU i p)=true)(v:Vec)(hv:qK n v=some true):∃y,Zm n x.Bs[i] p v=some y∧YL n x.Bs[i] p v=some y∧Q0 n ⟨x.Bs.set i y,x.Ls,x.Said⟩∧y.Id=x.Bs[i].Id∧y.Ps=x.Bs[i].Ps.set p ⟨true,x.Bs[i].Ps[p].Co,true,v⟩:=by
 obtain⟨b1,b2,b3⟩:=hx.br hi
 obtain⟨y,e1,e2,e3,e4,e5,e6,e7,_⟩:=zJi n x.Bs[i] p v b2 (by omega) (by omega) b1 hp hup hv
 refine⟨y,e1,e2,zMZ hx hi y e3 e4 (by omega) e6 (by rw[e7];simp) (fun j hj hh=>?_) (fun j=>?_) x.Said hx.2.2.1.2.2.2.1 hx.says,e6,e7⟩
 ·by_cases hjp:p=j
  ·subst hjp;exact hend
  ·have hj':j<x.Bs[i].Ps.length:=by rw[e7]at hj;simpa using hj
   have hg:y.Ps[j]=x.Bs[i].Ps[j]:=by
    simp only[e7]
    exact List.getElem_set_ne hjp _
   rw[hg]at hh
   exact(hx.2.2.1.1 i hi hi).2.2 j hj' hh
 ·rw[e7,←zPc x.Bs[i].Ps p hp x.Bs[i].Ps[p].Co true v j,hup]
theorem zQ9{n:Nat}(hn:1048700<n){x:Net}(hx:Q0 n x){i:Nat}(hi:i<x.Bs.length):∃y,zDk n x.Bs[i]=some y∧zGe n x.Bs[i]=some y∧Q0 n ⟨x.Bs.set i y,x.Ls,x.Said⟩:=by
 obtain⟨b1,b2,b3⟩:=hx.br hi
 obtain⟨y,e1,e2,e3,e4,e5,e6,e7,_⟩:=zMz n x.Bs[i] b2 (by omega) (by omega) b1
 refine⟨y,e1,e2,zMZ hx hi y e3 e4 (by omega) e6 (by rw[e7]) (fun j hj hh=>?_) (fun j=>by rw[e7]) x.Said hx.2.2.1.2.2.2.1 hx.says⟩
 have hj':j<x.Bs[i].Ps.length:=by rw[e7]at hj;exact hj
 have hg:y.Ps[j]=x.Bs[i].Ps[j]:=by congr 1
 rw[hg]at hh
 exact(hx.2.2.1.1 i hi hi).2.2 j hj' hh
def zH5(ss:List Say)(i:Nat):List Say:=ss.take i++ss.drop (i+1)
theorem zQO(ss:List Say)(i:Nat)(hi:i<ss.length)(h40:ss.length≤40):(([]:List Say)++((ss.drop ((0:Int)).toNat).take (((i:Int)).toNat-((0:Int)).toNat)))++((ss.drop ((((i+1:Nat):Int):Int)).toNat).take ((((ss.length:Int):Int)).toNat-((((i+1:Nat):Int)):Int).toNat))=zH5 ss i:=by
 unfold zH5
 rw[List.nil_append,Int.toNat_natCast,Int.toNat_natCast,Int.toNat_natCast,show(0:Int).toNat=0 from rfl,Nat.sub_zero,List.drop_zero,show(ss.drop (i+1)).take (ss.length-(i+1))=ss.drop (i+1)from List.take_of_length_le (by rw[List.length_drop];omega)]
theorem zRc{ss:List Say}{i:Nat} :∀s∈zH5 ss i,s∈ss:=fun s hs=>by
 rcases List.mem_append.1 hs with h|h
 ·exact List.mem_of_mem_take h
 ·exact List.mem_of_mem_drop h
theorem zRb{ss:List Say}{i:Nat}(hi:i<ss.length):(zH5 ss i).length+1=ss.length:=by
 unfold zH5
 rw[List.length_append,List.length_take,List.length_drop]
 omega
theorem zNJ(ss:List Say)(i:Nat)(hi:i<ss.length)(h40:ss.length≤40):
  (decide ((0:Int)≤0)&&(decide ((0:Int)≤(i:Int))&&decide ((i:Int)≤(ss.length:Int))))=true∧
  (decide ((0:Int)≤((i+1:Nat):Int))&&(decide (((i+1:Nat):Int)≤(ss.length:Int))&&decide ((ss.length:Int)≤(ss.length:Int))))=true∧
  decide (([]:List Say).length+((ss.drop ((0:Int)).toNat).take (((i:Int)).toNat-((0:Int)).toNat)).length≤268435456)=true∧
  decide ((([]:List Say)++((ss.drop ((0:Int)).toNat).take (((i:Int)).toNat-((0:Int)).toNat))).length+((ss.drop ((((i+1:Nat):Int):Int)).toNat).take ((((ss.length:Int):Int)).toNat-((((i+1:Nat):Int)):Int).toNat)).length≤268435456)=true:=by
 refine⟨?_,?_,?_,?_⟩
 ·rw[Bool.and_eq_true,Bool.and_eq_true]
  exact⟨rfl,tQ (by omega),tQ (by omega)⟩
 ·rw[Bool.and_eq_true,Bool.and_eq_true]
  exact⟨tQ (by omega),tQ (by omega),tQ (by omega)⟩
 ·refine tQ ?_
  rw[List.length_take,List.length_drop,List.length_nil]
  omega
 ·refine tQ ?_
  rw[List.length_append,List.length_take,List.length_drop,List.length_take,List.length_drop,List.length_nil]
  omega
theorem zIq(n:Nat)(x:Net)(z:Event){i:Nat}(hi:i<x.Said.length)(h40:x.Said.length≤40)(he:z.At=i):zAx n x z=bif z.Ki==2 then(qV n ⟨x.Bs,x.Ls,zH5 x.Said i⟩ x.Said[i].Link).bind fun u=>bif u then YT n ⟨x.Bs,x.Ls,zH5 x.Said i⟩ x.Said[i].Link x.Said[i].Back x.Said[i].V else some ⟨x.Bs,x.Ls,zH5 x.Said i⟩else some ⟨x.Bs,x.Ls,zH5 x.Said i⟩:=by
 obtain⟨c1,c2,c3,c4⟩:=zNJ x.Said i hi h40
 unfold zAx
 rw[he,vQ i,zK hi,bQ,c1,c2,c3,c4,zQO x.Said i hi h40]
 simp only[cQ]
 congr 1
 congr 1
 funext u
 cases u with
 |false=>rfl
 |true=>simp only[cQ];cases YT n ⟨x.Bs,x.Ls,zH5 x.Said i⟩ x.Said[i].Link x.Said[i].Back x.Said[i].V<;>rfl
theorem zG9(n:Nat)(x:Net)(b:Bool){i:Nat}(hi:i<x.Said.length)(h40:x.Said.length≤40):zBX n x i b=bif !b then some ⟨x.Bs,x.Ls,zH5 x.Said i⟩else(qD n ⟨x.Bs,x.Ls,zH5 x.Said i⟩ x.Said[i].Link).bind fun u=>bif !u then some ⟨x.Bs,x.Ls,zH5 x.Said i⟩else(idx x.Ls x.Said[i].Link).bind fun l=>bif x.Said[i].Back then QF n ⟨x.Bs,x.Ls,zH5 x.Said i⟩ l.A l.P x.Said[i].V else QF n ⟨x.Bs,x.Ls,zH5 x.Said i⟩ l.B l.Q x.Said[i].V:=by
 obtain⟨c1,c2,c3,c4⟩:=zNJ x.Said i hi h40
 unfold zBX
 rw[vQ i,zK hi,bQ,c1,c2,c3,c4,zQO x.Said i hi h40]
 simp only[cQ]
 congr 1
 congr 1
 funext u
 congr 1
 congr 1
 funext l
 congr 1
 ·cases QF n ⟨x.Bs,x.Ls,zH5 x.Said i⟩ l.A l.P x.Said[i].V<;>rfl
 ·cases QF n ⟨x.Bs,x.Ls,zH5 x.Said i⟩ l.B l.Q x.Said[i].V<;>rfl
theorem zQ8{n:Nat}(hn:1048700<n){x:Net}(hx:Q0 n x){i:Nat}(hi:i<x.Said.length)(z:Event)(he:z.At=i):∃y,zAx n x z=some y∧zBX n x i (z.Ki==2)=some y∧Q0 n y:=by
 have h40:=hx.2.2.1.2.2.2.1
 rw[zIq n x z hi h40 he,zG9 n x _ hi h40]
 have hc:Q0 n ⟨x.Bs,x.Ls,zH5 x.Said i⟩:=zNV hx _ (by have:=zRb hi;omega) fun s hs=>hx.says s (zRc s hs)
 cases z.Ki==2 with
 |false=>exact⟨_,rfl,rfl,hc⟩
 | true =>
  simp only[nQ,fQ,cQ]
  obtain⟨⟨⟨l0,l1⟩,hv⟩,_⟩:=hx.says x.Said[i] (List.getElem_mem hi)
  obtain⟨k,hk0⟩:=Int.eq_ofNat_of_zero_le l0
  have hk:k<x.Ls.length:=by omega
  obtain⟨u,u1,u2⟩:=hx.link (zH5 x.Said i) x.Said[i].Link
  rw[u1,u2,bQ,bQ]
  cases u with
  |false=>exact⟨_,rfl,rfl,hc⟩
  | true =>
   obtain⟨a,p,c,q,ha,hcc,ea,ep,ec,eq,hac,hp,hq,hp6,hq6⟩:=hx.ends hk
   obtain⟨l,va,vb,pp,qq,g1,g2,g3,g4,g5,g6,g7⟩:=zA5 n _ _ u1
   rw[hk0]at g1⊢
   rw[show idx (⟨x.Bs,x.Ls,zH5 x.Said i⟩:Net).Ls (k:Int)= _ from zK hk]at g1
   obtain rfl:=Option.some.inj g1
   simp only[ea,ep,ec,eq,zK ha,zK hcc]at g2 g3 g5 g6
   obtain rfl:=Option.some.inj g2
   obtain rfl:=Option.some.inj g5
   rw[zK hp]at g3
   rw[zK hq]at g6
   obtain rfl:=Option.some.inj g3
   obtain rfl:=Option.some.inj g6
   unfold YT QF
   simp only[nQ,fQ,cQ,zK hk,bQ,ea,ep,ec,eq,zK ha,zK hcc,Int.toNat_natCast]
   have hm:x.Ls[k]∈x.Ls:=List.getElem_mem hk
   cases x.Said[i].Back with
   |true=>
    obtain⟨y,e1,e2,e3,_⟩:=zNf hn hc ha hp g4 (List.any_eq_true.2 ⟨_,hm,JH.2 (.inl ⟨ea,ep⟩)⟩) _ hv
    simp only[cQ,show Zm n x.Bs[a] p x.Said[i].V= _ from e1,show YL n x.Bs[a] p x.Said[i].V= _ from e2,bQ]
    exact⟨_,rfl,rfl,e3⟩
   |false=>
    obtain⟨y,e1,e2,e3,_⟩:=zNf hn hc hcc hq g7 (List.any_eq_true.2 ⟨_,hm,JH.2 (.inr ⟨ec,eq⟩)⟩) _ hv
    simp only[fQ,show Zm n x.Bs[c] q x.Said[i].V= _ from e1,show YL n x.Bs[c] q x.Said[i].V= _ from e2,bQ]
    exact⟨_,rfl,rfl,e3⟩
theorem zRy{bs:List zA}{ls:List Link}{ss:List Say}{a c:Nat}(ha:a<bs.length)(hc:c<bs.length)(hac:a≠c)(v w:zA)(b p:Int):zJt ⟨(bs.set a v).set c w,ls,ss⟩ b p=if b=(c:Int)then(idx w.Ps p).map (·.Up)else if b=(a:Int)then(idx v.Ps p).map (·.Up)else zJt ⟨bs,ls,ss⟩ b p:=by
 unfold zJt
 rw[zIY (bs:=bs.set a v) (ss':=ss) (by simpa using hc),zIY (ss':=ss) ha]
 split
 ·rfl
 ·split<;>rfl
theorem zKJ(ps:List Pt)(k:Nat)(hk:k<ps.length)(v:Pt)(p:Int):(idx (ps.set k v) p).map (·.Up)=if p=(k:Int)then some v.Up else(idx ps p).map (·.Up):=by
 rw[zE4 hk]
 split<;>rfl
theorem Q0.other{n:Nat}{x:Net}(hx:Q0 n x){k j:Nat}(hk:k<x.Ls.length)(hj:j<x.Ls.length)(hkj:k≠j):ZU x.Ls[k].A x.Ls[k].P x.Ls[j]=false∧ZU x.Ls[k].B x.Ls[k].Q x.Ls[j]=false:=by
 obtain⟨_,s1,s2⟩:=hx.2.2.1.2.2.2.2 k hk
 have key:∀b p:Int,ZU b p x.Ls[k]=true→JA (JS b p) x.Ls=1→ZU b p x.Ls[j]=false:=fun b p h1 h2=>by
  rw[Bool.eq_false_iff]
  intro h3
  have c1:=zGM.1 h1
  have c2:=zGM.1 h3
  rcases Nat.lt_or_gt_of_ne hkj with h|h
  ·have:=zMe (JS b p) x.Ls k j h hj
   omega
  ·have:=zMe (JS b p) x.Ls j k h hk
   omega
 exact⟨key _ _ (JH.2 (.inl ⟨rfl,rfl⟩)) s1,key _ _ (JH.2 (.inr ⟨rfl,rfl⟩)) s2⟩
theorem zQ7{n:Nat}(hn:1048700<n){x:Net}(hx:Q0 n x){k:Nat}(hk:k<x.Ls.length)(up:Bool):∃y,zBz n x k up=some y∧zEp n x k up=some y∧Q0 n y:=by
 obtain⟨u,u1,u2⟩:=hx.link x.Said k
 unfold zBz zEp
 rw[show qV n x k= _ from u1,show qD n x k= _ from u2,bQ,bQ]
 cases hu:u==up with
 |true=>exact⟨x,rfl,rfl,hx⟩
 | false =>
  obtain⟨a,p,c,q,ha,hc,ea,ep,ec,eq,hac,hp,hq,hp6,hq6⟩:=hx.ends hk
  obtain⟨ba1,ba2,ba3⟩:=hx.br ha
  obtain⟨bc1,bc2,bc3⟩:=hx.br hc
  obtain⟨v,v1,v2,v3,v4,v5,v6,v7,_⟩:=zFw n x.Bs[a] p up ba2 (by omega) (by omega) ba1 hp
  obtain⟨w,w1,w2,w3,w4,w5,w6,w7,_⟩:=zFw n x.Bs[c] q up bc2 (by omega) (by omega) bc1 hq
  have hset:idx (x.Bs.set a v) (c:Int)=some x.Bs[c]:=by
   rw[zE4 ha,if_neg (by omega),zK hc]
  simp only[fQ,zK hk,bQ,ea,ep,ec,eq,zK ha,v1,v2,Int.toNat_natCast,hset,w1,w2]
  refine⟨_,rfl,rfl,zOH hx _ _ (by simp) (fun i hi hi'=>?_) (fun l hl=>?_) hx.2.2.1.2.2.2.1 hx.says⟩
  ·have hself:=hx.self i hi hi
   have used:∀ {i' p':Nat} {ps qs:List Pt} (hi':i'<x.Bs.length) (hp':p'<ps.length) (e:qs=ps.set p' ⟨up,ps[p'].Co,false,⟨0,0,0,0,0⟩⟩) (h:∀j (hj:j<ps.length),ps[j].Has=true→x.Ls.any (ZU i' j)=true),∀j (hj:j<qs.length),qs[j].Has=true→x.Ls.any (ZU i' j)=true:=fun {i' p' ps qs} hi' hp' e h j hj hh=>by
    subst e
    by_cases hjp:p'=j
    ·subst hjp
     rw[List.getElem_set_self]at hh
     cases hh
    ·rw[List.getElem_set_ne hjp]at hh
     exact h j (by simpa using hj) hh
   by_cases hic:c=i
   ·subst hic
    simp only[List.getElem_set_self]
    exact⟨w3,w4,by omega,w6,by rw[w7];simp,used hc hq w7 (hx.self c hc hc).2.2.2.2.2⟩
   ·by_cases hia:a=i
    ·subst hia
     simp only[List.getElem_set_ne hic,List.getElem_set_self]
     exact⟨v3,v4,by omega,v6,by rw[v7];simp,used ha hp v7 (hx.self a ha ha).2.2.2.2.2⟩
    ·simp only[List.getElem_set_ne hic,List.getElem_set_ne hia]
     exact⟨hself.1,hself.2.1,hself.2.2.1,trivial,trivial,hself.2.2.2.2.2⟩
  ·obtain⟨j,hj,rfl⟩:=List.getElem_of_mem hl
   have hval:∀b p':Int,zJt ⟨(x.Bs.set a v).set c w,x.Ls,x.Said⟩ b p'=if(b=(c:Int)∧p'=(q:Int))∨(b=(a:Int)∧p'=(p:Int))then some up else zJt x b p':=fun b p'=>by
    rw[zRy ha hc hac,v7,w7,zKJ _ _ hq,zKJ _ _ hp]
    have hself:∀ {i:Nat} (hi:i<x.Bs.length),(idx x.Bs[i].Ps p').map (·.Up)=zJt x (i:Int) p':=fun {i} hi=>by
     unfold zJt ZQ
     rw[zK hi,bQ]
    by_cases h1:b=(c:Int)
    ·subst h1
     have:¬((c:Int)=(a:Int)):=by omega
     by_cases h2:p'=(q:Int)
     ·simp[h2]
     ·simp only[if_true,if_neg h2,hself hc]
      rw[if_neg (by rintro(h|h)<;>omega)]
    ·by_cases h3:b=(a:Int)
     ·subst h3
      by_cases h2:p'=(p:Int)
      ·simp[h2,h1]
      ·simp only[if_neg h1,if_true,if_neg h2,hself ha]
       rw[if_neg (by rintro(h|h)<;>omega)]
     ·rw[if_neg h1,if_neg h3,if_neg (by rintro(h|h)<;>omega)]
   rw[hval,hval]
   by_cases hjk:k=j
   ·subst hjk
    rw[ea,ep,ec,eq,if_pos (.inr ⟨rfl,rfl⟩),if_pos (.inl ⟨rfl,rfl⟩)]
   ·obtain⟨o1,o2⟩:=hx.other hk hj hjk
    have o1':=fun h=>Bool.eq_false_iff.1 o1 (JH.2 h)
    have o2':=fun h=>Bool.eq_false_iff.1 o2 (JH.2 h)
    rw[ea,ep]at o1'
    rw[ec,eq]at o2'
    rw[if_neg (fun h=>h.elim (fun h=>o2' (.inl h)) (fun h=>o1' (.inl h))),if_neg (fun h=>h.elim (fun h=>o2' (.inr h)) (fun h=>o1' (.inr h)))]
    exact hx.up _ hl
theorem zMa{m:Nat}{z:Int}(h:(decide (0≤z)&&decide (z≤(m:Int)-1))=true):∃i:Nat,z=i∧i<m:=by
 rw[Bool.and_eq_true,decide_eq_true_iff,decide_eq_true_iff]at h
 obtain⟨i,rfl⟩:=Int.eq_ofNat_of_zero_le h.1
 exact⟨i,rfl,by omega⟩
theorem zMy{n:Nat}(hn:1048700<n){x:Net}(hx:Q0 n x)(z:Event):∃y b,zDj n x z=some (y,b)∧zL2 n x z=some (y,b)∧Q0 n y∧(b=false→y=x):=by
 have hs:(x.Bs.length+Ju zA.sz x.Bs)+x.Ls.length+x.Said.length=x.sz:=rfl
 have hsz:=hx.sz
 obtain⟨k1,k2⟩:=hx.ok hn
 unfold zDj zL2
 rw[zDL n x (by omega) (by omega),zDJ n x (by omega) (by omega),k1,k2]
 simp only[bQ,nQ,fQ]
 have w1:wI ((x.Bs.length:Int)-1)=(x.Bs.length:Int)-1:=wQ
 have w2:wI ((x.Said.length:Int)-1)=(x.Said.length:Int)-1:=wQ
 have w3:wI ((x.Ls.length:Int)-1)=(x.Ls.length:Int)-1:=wQ
 have w4:wI ((0:Int)-1)=(0:Int)-1:=wQ
 have key:∀K:Int,z.Ki=K→∃y b,(bif (K==1)then(QU n x x z true)else(QU n x x z (K==6)))=some (y,b)∧(bif (K==1)then(Yn n x x z true)else(Yn n x x z (K==6)))=some (y,b)∧Q0 n y∧(b=false→y=x):=by
  intro K hK
  by_cases h1:K=1
  ·subst h1
   unfold QU Yn Qy
   simp only[show((1:Int)==1)=true from rfl,show((1:Int)==6)=false from rfl,cQ,fQ,qe,zV,w1,bQ,hK]
   cases h:(decide (0≤z.At)&&decide (z.At≤(x.Bs.length:Int)-1))with
   |false=>exact⟨x,false,rfl,rfl,hx,fun _=>rfl⟩
   |true=>
    obtain⟨y,e1,e2,e3,_⟩:=zPy hn hx z.At
    simp only[nQ,fQ,e1,e2,bQ]
    exact⟨y,true,rfl,rfl,e3,fun h=>by cases h⟩
  by_cases h6:K=6
  ·subst h6
   unfold QU Yn Qy
   simp only[show((6:Int)==1)=false from rfl,show((6:Int)==6)=true from rfl,cQ,fQ,qe,zV,w1,bQ,hK]
   cases h:(decide (0≤z.At)&&decide (z.At≤(x.Bs.length:Int)-1))with
   |false=>exact⟨x,false,rfl,rfl,hx,fun _=>rfl⟩
   |true=>
    obtain⟨i,hi,hil⟩:=zMa h
    obtain⟨y,e1,e2,e3⟩:=zQ9 hn hx hil
    simp only[nQ,fQ,hi,zK hil,e1,e2,bQ,Int.toNat_natCast]
    exact⟨_,true,rfl,rfl,e3,fun h=>by cases h⟩
  have b1:(K==1)=false:=by rw[beq_eq_false_iff_ne];exact h1
  have b6:(K==6)=false:=by rw[beq_eq_false_iff_ne];exact h6
  have said:∀c:Bool,(K==2)=c→(K==2||K==3)=true→∃y b,Je n x x z true=some (y,b)∧zCz n x x z true=some (y,b)∧Q0 n y∧(b=false→y=x):=fun c hc h23=>by
   unfold Je zCz Qy
   simp only[cQ,fQ,qe,zV,w2,bQ,hK,b1,b6]
   cases h:(decide (0≤z.At)&&decide (z.At≤(x.Said.length:Int)-1))with
   |false=>exact⟨x,false,rfl,rfl,hx,fun _=>rfl⟩
   |true=>
    obtain⟨i,hi,hil⟩:=zMa h
    obtain⟨y,e1,e2,e3⟩:=zQ8 hn hx hil z hi
    rw[hK,hc]at e2
    have h3:c=false→(K==3)=true:=fun h=>by rw[hc,h]at h23;simpa using h23
    unfold zEU
    simp only[nQ,fQ,e1,bQ,hc,hi,hK]
    cases c with
    |true=>simp only[cQ,e2,bQ];exact⟨y,true,rfl,rfl,e3,fun h=>by cases h⟩
    |false=>simp only[h3 rfl,cQ,fQ,e2,bQ];exact⟨y,true,rfl,rfl,e3,fun h=>by cases h⟩
  by_cases h2:K=2
  ·obtain⟨y,b,e1,e2,e3⟩:=said true (by rw[h2];rfl) (by rw[h2];rfl)
   unfold QU Yn
   simp only[b1,b6,fQ,hK]
   rw[h2]
   exact⟨y,b,e1,e2,e3⟩
  have b2:(K==2)=false:=by rw[beq_eq_false_iff_ne];exact h2
  by_cases h3:K=3
  ·obtain⟨y,b,e1,e2,e3⟩:=said false b2 (by rw[h3];rfl)
   unfold QU Yn
   simp only[b1,b6,b2,fQ,hK]
   rw[h3]
   exact⟨y,b,e1,e2,e3⟩
  have b3:(K==3)=false:=by rw[beq_eq_false_iff_ne];exact h3
  have link:(K==4||K==5)=true→∃y b,Jf n x x z true=some (y,b)∧Qy n x x z (x.Ls.length:Int)=some (y,b)∧Q0 n y∧(b=false→y=x):=fun h45=>by
   unfold Jf Qy
   simp only[cQ,fQ,qe,zV,w3,bQ,hK,b1,b6,b2,b3]
   cases h:(decide (0≤z.At)&&decide (z.At≤(x.Ls.length:Int)-1))with
   |false=>exact⟨x,false,rfl,rfl,hx,fun _=>rfl⟩
   |true=>
    obtain⟨i,hi,hil⟩:=zMa h
    obtain⟨y,e1,e2,e3⟩:=zQ7 hn hx hil (K==5)
    unfold zEU
    simp only[nQ,fQ,hK,hi,e1,e2,bQ]
    exact⟨y,true,rfl,rfl,e3,fun h=>by cases h⟩
  unfold QU Yn Je zCz
  simp only[b1,b6,b2,b3,fQ,hK]
  by_cases h4:K=4
  ·rw[h4]at link⊢
   exact link rfl
  have b4:(K==4)=false:=by rw[beq_eq_false_iff_ne];exact h4
  simp only[b4,fQ]
  by_cases h5:K=5
  ·rw[h5]at link⊢
   exact link rfl
  have b5:(K==5)=false:=by rw[beq_eq_false_iff_ne];exact h5
  unfold Jf Qy
  simp only[b5,fQ,qe,zV,w4,bQ,show(decide (0≤z.At)&&decide (z.At≤(0:Int)-1))=false from by by_cases h:0≤z.At; { rw[dQ (show¬z.At≤(0:Int)-1 by omega),Bool.and_false] }; { rw[dQ h];rfl },Bool.not_false,cQ]
  exact⟨x,false,rfl,rfl,hx,fun _=>rfl⟩
 exact key _ rfl
theorem zKy(n:Nat)(c:Src)(q:Nat)(hq:q≤6)(hn:100<n)(h:c.ok):∃(r:Nat) (c':Src),zC8 n c q=some ((List.range q).map (fun k=>((1+(r+k*3)%7:Nat):Int)),c')∧c'.ok:=by
 obtain⟨v,c',e1,v0,v1,hc⟩:=zO n c 7 h
 have v1:=v1 (by decide)
 obtain⟨r,rfl⟩:=Int.eq_ofNat_of_zero_le v0
 have loop:∀(m k:Nat),k≤q→q<m+k→YY n m ((r:Int),c') q k ((List.range k).map (fun k=>((1+(r+k*3)%7:Nat):Int)))=some (.inl ((List.range q).map (fun k=>((1+(r+k*3)%7:Nat):Int)))):=fun m=>by
  induction m with
  |zero=>intro k _ _;omega
  | succ m ih =>
   intro k h1 h2
   rw[YY]
   by_cases hk:k<q
   ·have e3:wI ((k:Int)*3)=((k*3:Nat):Int):=by rw[wQ];omega
    have e4:wI ((r:Int)+((k*3:Nat):Int))=((r+k*3:Nat):Int):=by rw[wQ];omega
    have e5:Int.tmod ((r+k*3:Nat):Int) 7=(((r+k*3)%7:Nat):Int):=by rw[Int.tmod_eq_emod_of_nonneg (by omega)];omega
    have e6:wI (1+(((r+k*3)%7:Nat):Int))=((1+(r+k*3)%7:Nat):Int):=by rw[wQ];omega
    have hd:decide ((7:Int)≠0)=true:=by decide
    simp only[tQ (show(k:Int)<(q:Int) by omega),hd,cQ,e3,e4,e5,e6,vQ k]
    rw[tQ (by simp;omega),cQ]
    have:=ih (k+1) (by omega) (by omega)
    rw[List.range_succ,List.map_append,List.map_singleton]at this
    exact this
   ·obtain rfl:k=q:=by omega
    rw[dQ (by omega)];rfl
 unfold zC8
 rw[e1,bQ,show YY n n ((r:Int),c') q 0 []= _ from loop n 0 (by omega) (by omega)]
 exact⟨r,c',rfl,hc⟩
def LnkP(q p:Nat)(l:Link):Prop:=∃a b x y:Nat,l=⟨a,x,b,y⟩∧a<q∧b<q∧x<p∧y<p∧a≠b
def zO7(q p:Nat)(ls:List Link):Prop:=ls.length≤9∧(∀l∈ls,LnkP q p l)∧∀b x:Int,JA (JS b x) ls≤1
theorem zO7.add{q p:Nat}{ls:List Link}(h:zO7 q p ls)(h9:ls.length<9){a b x y:Nat}(ha:a<q)(hb:b<q)(hx:x<p)(hy:y<p)(hab:a≠b)(u1:JA (JS a x) ls=0)(u2:JA (JS b y) ls=0):zO7 q p (ls++[⟨a,x,b,y⟩]):=by
 refine⟨by simp;omega,fun l hl=>?_,fun c z=>?_⟩
 ·rcases List.mem_append.1 hl with hl|hl
  ·exact h.2.1 l hl
  ·rw[List.mem_singleton]at hl
   exact⟨a,b,x,y,hl,ha,hb,hx,hy,hab⟩
 ·have h1:=h.2.2 c z
  have h2:JA (JS c z) [(⟨a,x,b,y⟩:Link)]=JS c z ⟨a,x,b,y⟩:=by simp[JA]
  have b1:∀t:Bool,(bif t then 1 else 0:Nat)≤1:=fun t=>by cases t<;>decide
  rw[zFZ,h2,show JS c z (⟨a,x,b,y⟩:Link)=(bif (a:Int)==c&&(x:Int)==z then 1 else 0)+(bif (b:Int)==c&&(y:Int)==z then 1 else 0)from rfl]
  by_cases e1:(a:Int)=c∧(x:Int)=z
  ·obtain⟨rfl,rfl⟩:=e1
   have e2:((b:Int)==(a:Int))=false:=by rw[beq_eq_false_iff_ne];omega
   rw[e2,Bool.false_and,fQ,u1]
   have:=b1 ((a:Int)==(a:Int)&&(x:Int)==(x:Int))
   omega
  ·have e1':((a:Int)==c&&(x:Int)==z)=false:=by
    rw[Bool.eq_false_iff]
    intro hh
    rw[Bool.and_eq_true,beq_iff_eq,beq_iff_eq]at hh
    exact e1 hh
   rw[e1',fQ]
   by_cases e3:(b:Int)=c∧(y:Int)=z
   ·obtain⟨rfl,rfl⟩:=e3
    rw[u2]
    have:=b1 ((b:Int)==(b:Int)&&(y:Int)==(y:Int))
    omega
   ·have e3':((b:Int)==c&&(y:Int)==z)=false:=by
     rw[Bool.eq_false_iff]
     intro hh
     rw[Bool.and_eq_true,beq_iff_eq,beq_iff_eq]at hh
     exact e3 hh
    rw[e3',fQ]
    omega
theorem zEJ(n p:Nat)(z:Int)(ls:List Link)(hp:p≤1000)(h:ls.length≤9)(hn:1000<n):∀(m k:Nat),k<p→p<m+k→∃v:Nat,v<p∧YG n m p z ls k=some (.inl v)
 |0,k,h1,h2=>by omega
 | m + 1,k,h1,h2 => by
  rw[YG,JV n ⟨[],ls,[]⟩ z k (by simp only;omega) (by simp only;omega),bQ,vQ k]
  by_cases hu:(JA (JS z k) ls:Int)>0
  ·rw[tQ hu,cQ]
   by_cases hk:k+1<p
   ·rw[tQ (by omega),cQ]
    exact zEJ n p z ls hp h hn m (k+1) hk (by omega)
   ·rw[dQ (by omega),fQ]
    exact⟨k,h1,rfl⟩
  ·rw[dQ hu,fQ]
   exact⟨k,h1,rfl⟩
theorem zEI(n p:Nat)(z:Int)(ls:List Link)(hp:p≤1000)(h:ls.length≤9)(hn:1000<n):∀(m k:Nat),k<p→p<m+k→∃v:Nat,v<p∧YF n m p z ls k=some (.inl v)
 |0,k,h1,h2=>by omega
 | m + 1,k,h1,h2 => by
  rw[YF,JV n ⟨[],ls,[]⟩ z k (by simp only;omega) (by simp only;omega),bQ,vQ k]
  by_cases hu:(JA (JS z k) ls:Int)>0
  ·rw[tQ hu,cQ]
   by_cases hk:k+1<p
   ·rw[tQ (by omega),cQ]
    exact zEI n p z ls hp h hn m (k+1) hk (by omega)
   ·rw[dQ (by omega),fQ]
    exact⟨k,h1,rfl⟩
  ·rw[dQ hu,fQ]
   exact⟨k,h1,rfl⟩
theorem zHl{n:Nat}(hn:1000<n){q p:Nat}(hp0:1≤p)(hp:p≤1000)(f:Int×List Int×Int×Int×List Link→Option ((List Int×Int×Int×List Link)⊕(List Link×Src)))(k:Nat)(hk:k≤1000)(ls:List Link)(h:zO7 q p ls)(b a:Nat)(hb:b<q)(ha:a<q)(c:Src)(hc:c.ok):
  ∃(c':Src) (zs:List Link),c'.ok∧zO7 q p zs∧Zv n f p k ls b a c.b c.i c.h=f (((k+1:Nat):Int),c'.b,c'.i,c'.h,zs):=by
 obtain⟨v1,c1,e1,a1,b1,g1⟩:=zO n c p hc
 obtain⟨v2,c2,e2,a2,b2,g2⟩:=zO n c1 p g1
 have b1:=b1 (by omega)
 have b2:=b2 (by omega)
 obtain⟨v1,rfl⟩:=Int.eq_ofNat_of_zero_le a1
 obtain⟨v2,rfl⟩:=Int.eq_ofNat_of_zero_le a2
 obtain⟨x,hx,e3⟩:=zEJ n p a ls hp h.1 hn n v1 (by omega) (by omega)
 obtain⟨y,hy,e4⟩:=zEI n p b ls hp h.1 hn n v2 (by omega) (by omega)
 unfold Zv J5
 rw[show zP n ⟨c.b,c.i,c.h⟩ p= _ from e1,bQ,e2,bQ]
 simp only[e3,bQ,e4]
 unfold J6 QY
 simp only[JV n ⟨[],ls,[]⟩ _ _ (show ls.length≤1048600 by have:=h.1;omega) (show ls.length<n by have:=h.1;omega),bQ,vQ k]
 by_cases hab:(a:Int)=(b:Int)
 ·rw[show((a:Int) != (b:Int))=false from by simp[hab],fQ]
  exact⟨c2,ls,g2,h,rfl⟩
 rw[show((a:Int) != (b:Int))=true from by simpa using hab,cQ]
 by_cases u1:JA (JS a x) ls=0
 ·rw[u1,show(((0:Nat):Int)==0)=true from rfl,cQ]
  by_cases u2:JA (JS b y) ls=0
  ·rw[u2,show(((0:Nat):Int)==0)=true from rfl,cQ]
   by_cases h9:(ls.length:Int)<9
   ·rw[tQ h9,cQ,tQ (by simp;omega),cQ]
    exact⟨c2,_,g2,h.add (by omega) ha hb hx hy (by omega) u1 u2,rfl⟩
   ·rw[dQ h9,fQ]
    exact⟨c2,ls,g2,h,rfl⟩
  ·rw[show(((JA (JS b y) ls:Nat):Int)==0)=false from by rw[beq_eq_false_iff_ne];omega]
   exact⟨c2,ls,g2,h,rfl⟩
 ·rw[show(((JA (JS a x) ls:Nat):Int)==0)=false from by rw[beq_eq_false_iff_ne];omega]
  exact⟨c2,ls,g2,h,rfl⟩
theorem zEH{n:Nat}(hn:1000<n){q p:Nat}(hp0:1≤p)(hp:p≤1000)(hq0:1≤q)(hq:q≤6):∀(m k:Nat) (c:Src) (ls:List Link),k≤10→10<m+k→c.ok→zO7 q p ls→∃(c':Src) (zs:List Link),c'.ok∧zO7 q p zs∧zy n m q p k c.b c.i c.h ls=some (.inl (c'.b,c'.i,c'.h,zs))
 |0,k,c,ls,h1,h2,hc,h=>by omega
 | m + 1,k,c,ls,h1,h2,hc,h => by
  obtain⟨v1,c1,e1,a1,b1,g1⟩:=zO n c 4 hc
  have b1:=b1 (by decide)
  obtain⟨v1,rfl⟩:=Int.eq_ofNat_of_zero_le a1
  rw[zy,show zP n ⟨c.b,c.i,c.h⟩ 4= _ from e1,bQ,show wI ((q:Int)+(v1:Int))=((q+v1:Nat):Int)from by rw[wQ];omega]
  by_cases hk:k<q+v1
  ·obtain⟨v2,c2,e2,a2,b2,g2⟩:=zO n c1 q g1
   obtain⟨v3,c3,e3,a3,b3,g3⟩:=zO n c2 2 g2
   have b2:=b2 (by omega)
   have b3:=b3 (by decide)
   obtain⟨v2,rfl⟩:=Int.eq_ofNat_of_zero_le a2
   obtain⟨v3,rfl⟩:=Int.eq_ofNat_of_zero_le a3
   have t1:Int.tmod (wI (((v2+1:Nat):Int)+(v3:Int))) (q:Int)=(((v2+1+v3)%q:Nat):Int):=by
    rw[wQ,Int.tmod_eq_emod_of_nonneg (by omega),←Int.natCast_add,←Int.natCast_emod]
   have t2:(v2+1+v3)%q<q:=Nat.mod_lt _ (by omega)
   rw[tQ (show(k:Int)<((q+v1:Nat):Int) by omega),cQ,e2,bQ,e3,bQ,tQ (show(q:Int)≠0 by omega),cQ,show wI ((q:Int)-1)=(q:Int)-1 from wQ,vQ v2,vQ k,t1]
   have go:∀(b a:Nat) (c':Src),b<q→a<q→c'.ok→∃(c'':Src) (zs:List Link),c''.ok∧zO7 q p zs∧Zv n (fun v=>zy n m q p v.1 v.2.1 v.2.2.1 v.2.2.2.1 v.2.2.2.2) p k ls b a c'.b c'.i c'.h=some (.inl (c''.b,c''.i,c''.h,zs)):=fun b a c' hb ha hc'=>by
    obtain⟨c4,zs,g4,l4,e4⟩:=zHl hn hp0 hp (fun v=>zy n m q p v.1 v.2.1 v.2.2.1 v.2.2.2.1 v.2.2.2.2) k (by omega) ls h b a hb ha c' hc'
    rw[e4]
    exact zEH hn hp0 hp hq0 hq m (k+1) c4 zs (by omega) (by omega) g4 l4
   by_cases hkq:(k:Int)<(q:Int)-1
   ·obtain⟨v4,c4,e4,g4⟩:=Yi n c3 5 g3
    rw[tQ hkq,cQ,e4,bQ]
    cases v4 with
    |false=>exact go (k+1) k c4 (by omega) (by omega) g4
    |true=>exact go _ v2 c4 t2 (by omega) g4
   ·rw[dQ hkq,fQ]
    exact go _ v2 c3 t2 (by omega) g3
  ·rw[dQ (by omega),fQ]
   exact⟨c1,ls,g1,h,rfl⟩
theorem zIn{n:Nat}(hn:1000<n){q p:Nat}(hp0:1≤p)(hp:p≤1000)(hq0:1≤q)(hq:q≤6)(c:Src)(hc:c.ok):∃(ls:List Link) (c':Src),zBN n c q p=some (ls,c')∧zO7 q p ls∧c'.ok:=by
 obtain⟨c',zs,g,l,e⟩:=zEH hn hp0 hp hq0 hq n 0 c [] (by omega) (by omega) hc ⟨Nat.zero_le _,(fun l hl=>by cases hl),fun _ _=>Nat.zero_le _⟩
 unfold zBN
 rw[show zy n n q p 0 c.b c.i c.h []= _ from e]
 exact⟨zs,c',rfl,l,g⟩
theorem zSh(n:Nat)(p:Pt)(c:Int)(hc:1≤c∧c≤1000)(h:qZ n p=some true):qZ n ⟨p.Up,c,p.Has,p.Hd⟩=some true:=by
 obtain⟨_,h1,h2⟩:=JO n p h
 cases hh:p.Has with
 |false=>rw[h2 hh];exact zEr n c p.Up hc
 |true=>rw[(h1 hh).1];exact zEs n c p.Hd hc (h1 hh).2
theorem zRa{n:Nat}(hn:1048700<n){x:Net}(hx:Q0 n x){i j:Nat}(hi:i<x.Bs.length)(hj:j<x.Bs[i].Ps.length)(c:Int)(hc:1≤c∧c≤1000):Q0 n ⟨x.Bs.set i ⟨x.Bs[i].Id,x.Bs[i].Name,x.Bs[i].Ps.set j ⟨x.Bs[i].Ps[j].Up,c,x.Bs[i].Ps[j].Has,x.Bs[i].Ps[j].Hd⟩,x.Bs[i].F,x.Bs[i].V,x.Bs[i].Tk,x.Bs[i].Pa,x.Bs[i].Wo,x.Bs[i].Dr,x.Bs[i].Ve⟩,x.Ls,x.Said⟩:=by
 obtain⟨b1,b2,b3⟩:=hx.br hi
 have hs:x.Bs[i].Name.size+x.Bs[i].Ps.length+x.Bs[i].F.length+x.Bs[i].V.sz=x.Bs[i].sz:=rfl
 obtain⟨p1,p2,p3,p4,p5,p6,p7,p8,p9,p10,p11,p12,p13⟩:=qF n _ (by omega) b1
 obtain⟨w1,w2,w3,w4,w5⟩:=b2
 have wj:=w3.2 _ (List.getElem_mem hj)
 have hps:∀q (hq:q<(x.Bs[i].Ps.set j ⟨x.Bs[i].Ps[j].Up,c,x.Bs[i].Ps[j].Has,x.Bs[i].Ps[j].Hd⟩).length),qZ n (x.Bs[i].Ps.set j ⟨x.Bs[i].Ps[j].Up,c,x.Bs[i].Ps[j].Has,x.Bs[i].Ps[j].Hd⟩)[q]=some true:=zOJ (P:=fun q=>qZ n q=some true) p13 (zSh n _ c hc (p13 j hj))
 refine zMZ hx hi (⟨x.Bs[i].Id,x.Bs[i].Name,x.Bs[i].Ps.set j ⟨x.Bs[i].Ps[j].Up,c,x.Bs[i].Ps[j].Has,x.Bs[i].Ps[j].Hd⟩,x.Bs[i].F,x.Bs[i].V,x.Bs[i].Tk,x.Bs[i].Pa,x.Bs[i].Wo,x.Bs[i].Dr,x.Bs[i].Ve⟩:zA) (zA3 n (⟨x.Bs[i].Id,x.Bs[i].Name,x.Bs[i].Ps.set j ⟨x.Bs[i].Ps[j].Up,c,x.Bs[i].Ps[j].Has,x.Bs[i].Ps[j].Hd⟩,x.Bs[i].F,x.Bs[i].V,x.Bs[i].Tk,x.Bs[i].Pa,x.Bs[i].Wo,x.Bs[i].Dr,x.Bs[i].Ve⟩:zA) (by simp only[List.length_set];omega) (by simp only[List.length_set];exact p1) (by simp only[List.length_set];exact p2) p3 p4 p5 p6 (by simp only[List.length_set];exact p7) p8 p9 p10 p11 p12 hps) ⟨w1,w2,zDa w3 ⟨iQ (z:=c),wj.2⟩,w4,w5⟩ ?_ rfl (by simp) (fun q hq hh=>?_) (fun q=>?_) x.Said hx.2.2.1.2.2.2.1 hx.says
 ·show x.Bs[i].Name.size+(x.Bs[i].Ps.set j _).length+x.Bs[i].F.length+x.Bs[i].V.sz≤1048576
  rw[List.length_set];omega
 ·have hq':q<x.Bs[i].Ps.length:=by simpa using hq
  refine(hx.2.2.1.1 i hi hi).2.2 q hq' ?_
  by_cases hjq:j=q
  ·subst hjq
   simpa using hh
  ·simp only[List.getElem_set_ne hjq]at hh
   exact hh
 ·simp only
  rw[zE4 hj]
  split
  ·rename_i e
   subst e
   rw[zK hj];rfl
  ·rfl
theorem zEn{n:Nat}(hn:1048700<n){ls:List Link}{ss:List Say}{i:Nat} :∀(m k:Nat) (bs:List zA) (c:Src),Q0 n ⟨bs,ls,ss⟩→c.ok→∀(hi:i<bs.length),k≤bs[i].Ps.length→bs[i].Ps.length<m+k→∃(zs:List zA) (c':Src),Q0 n ⟨zs,ls,ss⟩∧zs.length=bs.length∧c'.ok∧Q7 n m i k bs c.b c.i c.h=some (.inl (zs,c'.b,c'.i,c'.h))
 |0,k,bs,c,hx,hc,hi,h1,h2=>by omega
 | m + 1,k,bs,c,hx,hc,hi,h1,h2 => by
  have h40:=(hx.br hi).2.2
  have hs:bs[i].Name.size+bs[i].Ps.length+bs[i].F.length+bs[i].V.sz=bs[i].sz:=rfl
  simp only at h40
  rw[Q7,zK hi,bQ]
  by_cases hk:k<bs[i].Ps.length
  ·obtain⟨v,c',e1,hv,g⟩:=zo n c [1,1,2,5,20] hc (by decide)
   have hv':1≤v∧v≤1000:=by
    simp only[List.mem_cons,List.not_mem_nil,or_false]at hv
    omega
   have hx':=zRa hn hx hi hk v hv'
   simp only at hx'
   rw[qU hk,cQ,show zp n ⟨c.b,c.i,c.h⟩ [1,1,2,5,20]= _ from e1,bQ,zK hk,bQ,vQ k,Int.toNat_natCast,Int.toNat_natCast]
   obtain⟨zs,c'',z1,z2,z3,z4⟩:=zEn hn m (k+1) _ c' hx' g (by simpa using hi) (by simp;omega) (by simp;omega)
   exact⟨zs,c'',z1,by rw[z2];simp,z3,z4⟩
  ·rw[dQ (by omega),fQ]
   exact⟨bs,c,hx,rfl,hc,rfl⟩
theorem zEm{n:Nat}(hn:1048700<n){ls:List Link}{ss:List Say} :∀(m k:Nat) (bs:List zA) (c:Src),Q0 n ⟨bs,ls,ss⟩→c.ok→k≤bs.length→bs.length<m+k→∃(zs:List zA) (c':Src),Q0 n ⟨zs,ls,ss⟩∧zs.length=bs.length∧c'.ok∧Zk n m k bs c.b c.i c.h=some (.inl (zs,c'.b,c'.i,c'.h))
 |0,k,bs,c,hx,hc,h1,h2=>by omega
 | m + 1,k,bs,c,hx,hc,h1,h2 => by
  have h6:=hx.2.2.1.2.1.2
  simp only at h6
  rw[Zk]
  by_cases hk:k<bs.length
  ·have h40:=(hx.br hk).2.2
   have hs:bs[k].Name.size+bs[k].Ps.length+bs[k].F.length+bs[k].V.sz=bs[k].sz:=rfl
   simp only at h40
   obtain⟨ys,c',y1,y2,y3,y4⟩:=zEn hn n 0 bs c hx hc hk (by omega) (by omega)
   rw[qU hk,cQ,show Q7 n n k 0 bs c.b c.i c.h= _ from y4]
   simp only[bQ,zAg,vQ k]
   obtain⟨zs,c'',z1,z2,z3,z4⟩:=zEm hn m (k+1) ys c' y1 y3 (by omega) (by omega)
   exact⟨zs,c'',z1,by omega,z3,z4⟩
  ·obtain rfl:k=bs.length:=by omega
   rw[z6]
   exact⟨bs,c,hx,rfl,hc,rfl⟩
theorem zIo(n:Nat)(c:Src)(x:Net)(hc:c.ok):∃(z:Event) (c':Src),zAC n c x=some (z,c')∧c'.ok:=by
 have j1:∀(y:Bool) (c:Src),c.ok→∃(z:Event) (c':Src),YH n x y c.b c.i c.h=some (z,c')∧c'.ok:=fun y c hc=>by
  unfold YH
  cases y with
  |true=>
   obtain⟨v,c1,e1,_,g1⟩:=zo n c [2,2,2,2,3] hc (by decide)
   obtain⟨w,c2,e2,_,_,g2⟩:=zO n c1 (x.Said.length:Int) g1
   rw[cQ,show zp n ⟨c.b,c.i,c.h⟩ [2,2,2,2,3]= _ from e1,bQ,e2]
   exact⟨_,c2,rfl,g2⟩
  | false =>
   obtain⟨v,c1,e1,_,g1⟩:=zo n c [1,1,1,1,4,5,6] hc (by decide)
   rw[fQ,show zp n ⟨c.b,c.i,c.h⟩ [1,1,1,1,4,5,6]= _ from e1,bQ]
   have j2:∀t:Bool,∃(z:Event) (c':Src),YI n (v,c1) x t=some (z,c')∧c'.ok:=fun t=>by
    unfold YI
    obtain⟨w,c2,e2,_,_,g2⟩:=zO n c1 (x.Ls.length:Int) g1
    obtain⟨w',c3,e3,_,_,g3⟩:=zO n c1 (x.Bs.length:Int) g1
    simp only[e2,e3,bQ]
    cases t with
    |true=>cases((x.Ls.length:Int)==0)<;>exact⟨_,_,rfl,by assumption⟩
    |false=>cases((x.Bs.length:Int)==0)<;>exact⟨_,_,rfl,by assumption⟩
   cases((v,c1).1==4)with
   |true=>exact j2 true
   |false=>exact j2 _
 unfold zAC
 cases decide ((x.Said.length:Int)>0)with
 |true=>
  obtain⟨v,c1,e1,g1⟩:=Yi n c 2 hc
  rw[cQ,e1,bQ]
  exact j1 v c1 g1
 |false=>exact j1 false c hc
theorem zEl{n:Nat}(hn:1048700<n):∀(m k:Nat) (x:Net) (c:Src),Q0 n x→c.ok→k<m→k≤1000→∃(y:Net) (c':Src),Q0 n y∧c'.ok∧Q6 n m k c.b c.i c.h x.Bs x.Ls x.Said=some (.inl (c'.b,c'.i,c'.h,y.Bs,y.Ls,y.Said))
 |0,k,x,c,hx,hc,h,h'=>by omega
 | m + 1,k,x,c,hx,hc,h,h' => by
  rw[Q6]
  by_cases hk:(k:Int)>0
  ·obtain⟨z,c1,e1,g1⟩:=zIo n c x hc
   obtain⟨y,b,e2,_,e3,_⟩:=zMy hn hx z
   rw[tQ hk,cQ,show zAC n ⟨c.b,c.i,c.h⟩ ⟨x.Bs,x.Ls,x.Said⟩= _ from e1,bQ,show zDj n ⟨x.Bs,x.Ls,x.Said⟩ z= _ from e2,bQ,show wI ((k:Int)-1)=((k-1:Nat):Int)from by rw[wQ];omega]
   exact zEl hn m (k-1) y c1 e3 g1 (by omega) (by omega)
  ·rw[dQ hk,fQ]
   exact⟨x,c,hx,hc,rfl⟩
theorem zSp(p:Nat)(h1:1≤p)(h6:p≤6):∃vt:zm,Yu 1048800 p=some vt∧qN 1048800 vt p=some true∧vt.sz≤10∧vt.wf:=by
 have wf:∀(m:Int) (k:Nat),0≤m→m≤63→k≤6→(⟨[⟨1,m,m⟩],List.replicate k 1⟩:zm).wf:=fun m k h0 h1 hk=>by
  refine⟨⟨by simp only[List.length_singleton];decide,fun r hr=>?_⟩,⟨?_,fun r hr=>?_⟩,trivial⟩
  ·rw[List.mem_singleton]at hr;subst hr
   exact⟨zk (by simp only;omega) (by simp only;omega),zk (by simp only;omega) (by simp only;omega),zk (by simp only;omega) (by simp only;omega),trivial⟩
  ·have:maxLen=9223372036854775807:=by decide
   simp only[List.length_replicate];omega
  ·obtain⟨_,rfl⟩:=List.mem_replicate.1 hr
   exact zk (by omega) (by omega)
 have hc:p=1∨p=2∨p=3∨p=4∨p=5∨p=6:=by omega
 rcases hc with rfl|rfl|rfl|rfl|rfl|rfl
 ·exact⟨⟨[⟨1,1,1⟩],List.replicate 1 1⟩,by kernel_rfl,by kernel_rfl,by decide,wf _ _ (by decide) (by decide) (by decide)⟩
 ·exact⟨⟨[⟨1,3,3⟩],List.replicate 2 1⟩,by kernel_rfl,by kernel_rfl,by decide,wf _ _ (by decide) (by decide) (by decide)⟩
 ·exact⟨⟨[⟨1,7,7⟩],List.replicate 3 1⟩,by kernel_rfl,by kernel_rfl,by decide,wf _ _ (by decide) (by decide) (by decide)⟩
 ·exact⟨⟨[⟨1,15,15⟩],List.replicate 4 1⟩,by kernel_rfl,by kernel_rfl,by decide,wf _ _ (by decide) (by decide) (by decide)⟩
 ·exact⟨⟨[⟨1,31,31⟩],List.replicate 5 1⟩,by kernel_rfl,by kernel_rfl,by decide,wf _ _ (by decide) (by decide) (by decide)⟩
 ·exact⟨⟨[⟨1,63,63⟩],List.replicate 6 1⟩,by kernel_rfl,by kernel_rfl,by decide,wf _ _ (by decide) (by decide) (by decide)⟩
theorem zPi(p:Nat)(h1:1≤p)(h6:p≤6):Ya 1048800 1048800 p 0 []=some (.inl (psK p 0))∧True:=by
 have hc:p=1∨p=2∨p=3∨p=4∨p=5∨p=6:=by omega
 rcases hc with rfl|rfl|rfl|rfl|rfl|rfl<;>exact⟨by kernel_rfl,trivial⟩
theorem zKP(z:Int)(q:Int):(¬((1≤z∧z≤99)∧1≤q∧q≤6)∧q9 1048800 z q=some noB)∨∃(p:Nat) (vt:zm),q=p∧(1≤z∧z≤99)∧1≤p∧p≤6∧vt.sz≤10∧vt.wf∧qN 1048800 vt p=some true∧q9 1048800 z q=some (nbB z vt (psK p 0) 0):=by
 unfold q9
 simp only[zV,bQ]
 by_cases hz:1≤z∧z≤99
 ·rw[tQ hz.1,tQ hz.2]
  by_cases hq:1≤q∧q≤6
  ·obtain⟨p,rfl⟩:=Int.eq_ofNat_of_zero_le (show 0≤q by omega)
   obtain⟨vt,e1,e3,e4,e5⟩:=zSp p (by omega) (by omega)
   have f1:=(zPi p (by omega) (by omega)).1
   refine .inr ⟨p,vt,rfl,hz,by omega,by omega,e4,e5,e3,?_⟩
   ·rw[tQ hq.1,tQ hq.2]
    simp only[Bool.and_self,nQ,fQ,e1,bQ,f1]
    rfl
  ·refine .inl ⟨fun h=>hq h.2,?_⟩
   have:(decide (1≤q)&&decide (q≤6))=false:=by
    simp only[Bool.and_eq_false_iff,decide_eq_false_iff_not];omega
   rw[this]
   rfl
 ·refine .inl ⟨fun h=>hz h.1,?_⟩
  have:(decide (1≤z)&&decide (z≤99))=false:=by
   simp only[Bool.and_eq_false_iff,decide_eq_false_iff_not];omega
  rw[this]
  rfl
theorem zMS{z:Int}{vt:zm}{p:Nat}(hz:1≤z∧z≤99)(h1:1≤p)(h6:p≤6)(hv:qN 1048800 vt p=some true)(hs:vt.sz≤10)(wv:vt.wf)(r8:zA)(hr:r8.Ps.length=p):∀(m k:Nat) (v:Int),k≤p→p<m+k→0≤v→v≤1000000→∃w,0≤w∧w≤1000000∧
  ∀(i:Nat) (zs:List zA) (hi:i<zs.length),zs[i]=nbB z vt (psK p k) v→Qv 1048800 m p i k zs=some (.inl (zs.set i (nbB z vt (psK p p) w)))
 |0,k,v,hk,hm,v0,v1=>by omega
 | m + 1,k,v,hk,hm,v0,v1 => by
  by_cases hkp:k<p
  ·obtain⟨v',a0,a1,e1,e2⟩:=zTh hz h1 h6 hkp hv hs wv v0 v1
   obtain⟨w,b0,b1,f2⟩:=zMS hz h1 h6 hv hs wv r8 hr m (k+1) v' hkp (by omega) a0 a1
   refine⟨w,b0,b1,fun i zs hi hzi=>?_⟩
   ·rw[Qv,tQ (show(k:Int)<(p:Int) by omega),cQ,zK hi,bQ,hzi,e1,bQ,vQ k,Int.toNat_natCast,f2 i (zs.set i (nbB z vt (psK p (k+1)) v')) (by simpa using hi) (by simp),List.set_set]
  ·obtain rfl:k=p:=by omega
   refine⟨v,v0,v1,fun i zs hi hzi=>?_⟩
   ·rw[Qv,dQ (show¬(k:Int)<(k:Int) by omega),fQ,←hzi,List.set_getElem_self]
theorem zN5(z q:Int):∃y y',NU q y y'∧q9 1048800 z q=some y:=by
 rcases zKP z q with⟨_,e1⟩|⟨p,vt,rfl,hz,h1,h6,hs,wv,hv,e1⟩
 ·exact⟨noB,noB,.inl ⟨rfl,rfl⟩,e1⟩
 ·obtain⟨w,b0,b1,f2⟩:=zMS hz h1 h6 hv hs wv (nbB z vt (psK p 0) 0) (zBv (by omega)) 1048800 0 0 (by omega) (by omega) (by omega) (by omega)
  exact⟨_,_,.inr ⟨z,p,vt,w,rfl,hz,h1,h6,hs,wv,hv,b0,b1,rfl,rfl,fun i zs hi hzi=>f2 i zs hi hzi⟩,e1⟩
theorem zFx(xs:List Int)(q:Int)(h:xs.length≤1048576):∀(m k:Nat) (acc acc':List zA),k≤xs.length→xs.length<m+k→acc.length=k→acc'.length=k→(∀j (hj:j<acc.length) (hj':j<acc'.length),NU q acc[j] acc'[j])→∃ys ys':List zA,QJ 1048800 m xs q k acc=some (.inl ys)∧ys.length=xs.length∧ys'.length=xs.length∧∀j (hj:j<ys.length) (hj':j<ys'.length),NU q ys[j] ys'[j]
 |0,k,acc,acc',h1,h2,h3,h3',h4=>by omega
 | m + 1,k,acc,acc',h1,h2,h3,h3',h4 => by
  rw[QJ]
  by_cases hk:k<xs.length
  ·obtain⟨y,y',u,e1⟩:=zN5 xs[k] q
   rw[qU hk,cQ,zK hk,bQ,e1,bQ,tQ (by simp;omega),cQ,vQ k]
   exact zFx xs q h m (k+1) (acc++[y]) (acc'++[y']) (by omega) (by omega) (by simp;omega) (by simp;omega) (fun j hj hj'=>by
    by_cases hjk:j<k
    ·rw[List.getElem_append_left (by omega),List.getElem_append_left (by omega)];exact h4 j (by omega) (by omega)
    ·have:j=k:=by simp at hj;omega
     subst this
     rw[List.getElem_append_right (by omega),List.getElem_append_right (by omega)]
     simp only[h3,h3',Nat.sub_self,List.getElem_cons_zero]
     exact u)
  ·obtain rfl:k=xs.length:=by omega
   rw[z6]
   exact⟨acc,acc',rfl,h3,h3',h4⟩
theorem zED(xs:List Int)(q:Int)(h:xs.length≤1048576):∀(m k:Nat) (acc ys:List zA),k≤xs.length→acc.length=k→(∀j (hj:j<acc.length) (hx:j<xs.length),q9 1048800 xs[j] q=some acc[j])→QJ 1048800 m xs q k acc=some (.inl ys)→∀j (hj:j<ys.length) (hx:j<xs.length),q9 1048800 xs[j] q=some ys[j]
 |0,k,acc,ys,_,_,_,h=>by cases h
 | m + 1,k,acc,ys,h1,h2,h3,e => by
  rw[QJ]at e
  by_cases hk:k<xs.length
  ·obtain⟨y,y',u,e1⟩:=zN5 xs[k] q
   rw[qU hk,cQ,zK hk,bQ,e1,bQ,tQ (by simp;omega),cQ,vQ k]at e
   refine zED xs q h m (k+1) (acc++[y]) ys (by omega) (by simp;omega) (fun j hj hx=>?_) e
   by_cases hjk:j<k
   ·rw[List.getElem_append_left (by omega)]
    exact h3 j (by omega) hx
   ·have:j=k:=by simp at hj;omega
    subst this
    rw[List.getElem_append_right (by omega)]
    simp only[h2,Nat.sub_self,List.getElem_cons_zero]
    exact e1
  ·obtain rfl:k=xs.length:=by omega
   rw[z6]at e
   cases e
   exact h3
theorem zNr(xs:List Int)(p:Nat)(ls:List Link)(h0:1≤xs.length)(h6:xs.length≤6)(hx:∀j (hj:j<xs.length),1≤xs[j]∧xs[j]≤99)(hd:∀i j (hj:j<xs.length) (hij:i<j),xs[i]≠xs[j])(hp0:1≤p)(hp:p≤6)(hl:zO7 xs.length p ls):
  ∃ys:List zA,zC2 1048800 xs p ls=some ⟨ys,ls,[]⟩∧Q0 1048800 ⟨ys,ls,[]⟩∧ys.length=xs.length∧∀j (hj:j<ys.length),ys[j].Ps.length=p∧∀k (hk:k<ys[j].Ps.length),ys[j].Ps[k].Up=true:=by
 have hm:maxLen=9223372036854775807:=by decide
 have h9:=hl.1
 have wl:zAt Link.wf ls:=⟨by omega,fun l hl'=>by
  obtain⟨a,b,x,y,rfl,ha,hb,hx',hy,_⟩:=hl.2.1 l hl'
  exact⟨iQ (z:=(a:Int)),iQ (z:=(x:Int)),iQ (z:=(b:Int)),iQ (z:=(y:Int)),trivial⟩⟩
 have big:∀ys:List zA,ys.length≤1048576→(∀y∈ys,y.wf∧y.sz≤16)→(⟨ys,ls,[]⟩:Net).wf∧Big ⟨ys,ls,[]⟩:=fun ys hy hw=>⟨⟨⟨by simp only;omega,fun y hy=>(hw y hy).1⟩,wl,⟨Nat.zero_le _,fun _ hs=>by cases hs⟩,trivial⟩,hy,fun a ha=>by have:=(hw a ha).2;omega,by simp only;omega,Nat.zero_le _⟩
 obtain⟨ys,ys',e1,l1,l2,hu⟩:=zFx xs p (by omega) 1048800 0 [] [] (by omega) (by omega) rfl rfl (fun j hj=>absurd hj (Nat.not_lt_zero j))
 have each:=zED xs p (by omega) 1048800 0 [] ys (by omega) rfl (fun j hj=>absurd hj (Nat.not_lt_zero j)) e1
 have nb:∀j (hj:j<ys.length),ys[j].Id=xs[j]'(by omega)∧ys[j].Ps.length=p∧zg 1048800 ys[j]=some true:=fun j hj=>by
  have hxj:j<xs.length:=by omega
  have e:=each j hj hxj
  rcases zKP xs[j] p with⟨hno,_⟩|⟨p',vt,hpp,hz,q1,q6,hs,wv,hv,e2⟩
  ·exact absurd ⟨hx j hxj,by omega,by omega⟩ hno
  ·obtain rfl:p=p':=by omega
   rw[e]at e2
   have e3:=Option.some.inj e2
   rw[e3]
   exact⟨rfl,zBv (by omega),zOW hz q1 q6 (by omega) hv (by omega) (by omega)⟩
 have fy:∀y∈ys,y.wf∧y.sz≤16:=fun y hy=>by
  obtain⟨j,hj,rfl⟩:=List.getElem_of_mem hy
  have f:=(hu j hj (by omega)).facts
  exact⟨f.1,f.2.2.1⟩
 have fy':∀y∈ys',y.wf∧y.sz≤16:=fun y hy=>by
  obtain⟨j,hj,rfl⟩:=List.getElem_of_mem hy
  have f:=(hu j (by omega) hj).facts
  exact⟨f.2.1,f.2.2.2.1⟩
 obtain⟨w1,b1⟩:=big ys (by omega) fy
 obtain⟨w2,b2⟩:=big ys' (by omega) fy'
 obtain⟨b,o1,_,_,o4⟩:=zNW 1048800 _ w1 b1 (by omega)
 have port:∀(a x:Nat),a<ys.length→x<p→∃v,ZQ ⟨ys,ls,[]⟩ a x=some v∧v.Up=false:=fun a x ha hx'=>by
  have hl:=(nb a ha).2.1
  refine⟨ys[a].Ps[x]'(by omega),?_,((hu a ha (by omega)).facts.2.2.2.2.2.2.2.1 x (by omega)).1⟩
  unfold ZQ
  simp only
  rw[zK ha,bQ,zK (by omega)]
 have hc:zPU 1048800 ⟨ys,ls,[]⟩:=by
  refine⟨fun k _ hk=>⟨(nb k hk).2.2,fun j hj=>?_,fun q hq hh=>?_⟩,⟨by simp only;omega,by simp only;omega⟩,hl.1,Nat.zero_le _,fun k hk=>?_⟩
  ·have hk':k<ys.length:=hk
   simp only
   rw[(nb j (by omega)).1,(nb k hk').1]
   exact hd j k (by omega) hj
  ·have hk':k<ys.length:=hk
   have f:=((hu k hk' (by omega)).facts.2.2.2.2.2.2.2.1 q hq).2
   simp only at hh
   rw[f]at hh
   cases hh
  ·have hk':k<ls.length:=hk
   obtain⟨a,b,x,y,e,ha,hb,hx',hy,hab⟩:=hl.2.1 ls[k] (List.getElem_mem hk')
   simp only
   have one:∀c z:Int,ZU c z ls[k]=true→JA (JS c z) ls=1:=fun c z hcz=>by
    have c1:=zGM.1 hcz
    have c2:=zJX (JS c z) ls _ (List.getElem_mem hk')
    have c3:=hl.2.2 c z
    omega
   refine⟨?_,one _ _ (JH.2 (.inl ⟨rfl,rfl⟩)),one _ _ (JH.2 (.inr ⟨rfl,rfl⟩))⟩
   rw[e]
   obtain⟨v,v1,v2⟩:=port a x (by omega) hx'
   obtain⟨w,w1,w2⟩:=port b y (by omega) hy
   exact⟨fun h=>by simp only at h;omega,v,w,v1,w1,v2.trans w2.symm⟩
 obtain rfl:=o4 rfl hc
 have nob:∀j (hj:j<ys.length),ys[j]≠noB:=fun j hj e=>by
  have:=(nb j hj).2.1
  rw[e]at this
  simp only[noB,List.length_nil]at this
  omega
 have l3:=zFK p ys ys' (by omega) (by omega) hu nob 1048800 0 ys (by omega) (by omega) rfl (fun j hj=>by rw[if_neg (by omega)])
 refine⟨ys',?_,⟨w2,b2,(zRi p ls ys ys' (by omega) hu).1 hc,fun s hs=>by cases hs⟩,by omega,fun j hj=>?_⟩
 ·have hg:decide (([]:List Link).length+ls.length≤268435456)=true:=tQ (by simp;omega)
  unfold zC2
  rw[hg,cQ,show QJ 1048800 1048800 xs p 0 []= _ from e1]
  simp only[bQ,zBL,List.nil_append]
  rw[o1]
  simp only[bQ,nQ,fQ]
  rw[show QI 1048800 1048800 p 0 ys= _ from l3]
  rfl
 ·have f:=(hu j (by omega) hj).facts
  exact⟨by have:=(nb j (by omega)).2.1;have:=f.2.2.2.2.2.1;omega,fun k hk=>(f.2.2.2.2.2.2.2.2 k hk).1⟩
theorem zQt(r q:Nat)(hq:q≤6):(∀j (hj:j<((List.range q).map (fun k=>((1+(r+k*3)%7:Nat):Int))).length),1≤((List.range q).map (fun k=>((1+(r+k*3)%7:Nat):Int)))[j]∧((List.range q).map (fun k=>((1+(r+k*3)%7:Nat):Int)))[j]≤99)∧
  ∀i j (hj:j<((List.range q).map (fun k=>((1+(r+k*3)%7:Nat):Int))).length) (hij:i<j),((List.range q).map (fun k=>((1+(r+k*3)%7:Nat):Int)))[i]≠((List.range q).map (fun k=>((1+(r+k*3)%7:Nat):Int)))[j]:=by
 refine⟨fun j hj=>?_,fun i j hj hij=>?_⟩
 ·rw[List.getElem_map,List.getElem_range]
  omega
 ·have hj':j<q:=by simpa using hj
  rw[List.getElem_map,List.getElem_range,List.getElem_map,List.getElem_range]
  omega
theorem zF1(c:Src)(hc:c.ok)(z:Int)(z0:0≤z)(z1:z≤100):∃(y:Net) (c':Src),zAw 1048800 c z=some (y,c')∧Q0 1048800 y∧c'.ok:=by
 obtain⟨v1,c1,e1,a1,b1,g1⟩:=zO 1048800 c 6 hc
 obtain⟨v2,c2,e2,a2,b2,g2⟩:=zO 1048800 c1 4 g1
 have b1:=b1 (by decide)
 have b2:=b2 (by decide)
 obtain⟨v1,rfl⟩:=Int.eq_ofNat_of_zero_le a1
 obtain⟨v2,rfl⟩:=Int.eq_ofNat_of_zero_le a2
 have t1:wI (1+(v1:Int))=((1+v1:Nat):Int):=by rw[wQ];omega
 have t2:wI (2+(v2:Int))=((2+v2:Nat):Int):=by rw[wQ];omega
 obtain⟨r,c3,e3,g3⟩:=zKy 1048800 c2 (1+v1) (by omega) (by omega) g2
 obtain⟨ls,c4,e4,l4,g4⟩:=zIn (n:=1048800) (by omega) (q:=1+v1) (p:=2+v2) (by omega) (by omega) (by omega) (by omega) c3 g3
 obtain⟨i1,i2⟩:=zQt r (1+v1) (by omega)
 have hlen:((List.range (1+v1)).map (fun k=>((1+(r+k*3)%7:Nat):Int))).length=1+v1:=by simp
 obtain⟨ys,e5,n5,_⟩:=zNr _ (2+v2) ls (by omega) (by omega) i1 i2 (by omega) (by omega) (by rw[hlen];exact l4)
 have h6:=n5.2.2.1.2.1.2
 simp only at h6
 obtain⟨zs,c6,n6,l6,g6,e6⟩:=zEm (n:=1048800) (by omega) 1048800 0 ys c4 n5 g4 (by omega) (by omega)
 obtain⟨v7,c7,e7,a7,b7,g7⟩:=zO 1048800 c6 (wI (z+1)) g6
 have t7:wI (z+1)=z+1:=wQ
 have b7:=b7 (by omega)
 obtain⟨v7,rfl⟩:=Int.eq_ofNat_of_zero_le a7
 obtain⟨y,c8,n8,g8,e8⟩:=zEl (n:=1048800) (by omega) 1048800 v7 ⟨zs,ls,[]⟩ c7 n6 g7 (by omega) (by omega)
 refine⟨y,c8,?_,n8,g8⟩
 unfold zAw zAf
 rw[e1]
 simp only[bQ]
 rw[e2]
 simp only[bQ,t1,t2]
 rw[e3]
 simp only[bQ]
 rw[e4]
 simp only[bQ]
 rw[e5]
 simp only[bQ]
 rw[show Zk 1048800 1048800 0 ys c4.b c4.i c4.h= _ from e6]
 simp only[bQ]
 rw[show zP 1048800 ⟨c6.b,c6.i,c6.h⟩ (wI (z+1))= _ from e7]
 simp only[bQ]
 rw[show Q6 1048800 1048800 v7 c7.b c7.i c7.h zs ls []= _ from e8]
 rfl
theorem zGp(n:Nat)(x:Net){a p:Nat}(ha:a<x.Bs.length)(hp:p<x.Bs[a].Ps.length)(h1:x.Bs.length≤1000)(h2:x.Bs[a].Ps.length≤1000):Y5 n x a p=some x.Bs[a].Ps[p].Up:=by
 unfold Y5
 rw[zV,bQ,wQ,tQ (show(0:Int)≤a by omega),tQ (show(a:Int)≤(x.Bs.length:Int)-1 by omega),Bool.and_true,cQ,zK ha,bQ,zV,bQ,wQ,tQ (show(0:Int)≤p by omega),tQ (show(p:Int)≤(x.Bs[a].Ps.length:Int)-1 by omega),Bool.and_true,cQ,bQ,zK hp]
 rfl
theorem Q0.linkV{n:Nat}{x:Net}(hx:Q0 n x){k:Nat}(hk:k<x.Ls.length):∃p q:Pt,ZQ x x.Ls[k].A x.Ls[k].P=some p∧ZQ x x.Ls[k].B x.Ls[k].Q=some q∧p.Up=q.Up∧qV n x k=some p.Up∧qD n x k=some p.Up∧(p.Up=false→p.Has=false)∧(q.Up=false→q.Has=false):=by
 obtain⟨a,p,c,q,ha,hc,ea,ep,ec,eq,hac,hp,hq,hp6,hq6⟩:=hx.ends hk
 have h6:=hx.2.2.1.2.1.2
 have h9:=hx.2.2.1.2.2.1
 have sa:=(hx.br ha).2.2
 have sc:=(hx.br hc).2.2
 have qa:x.Bs[a].Name.size+x.Bs[a].Ps.length+x.Bs[a].F.length+x.Bs[a].V.sz=x.Bs[a].sz:=rfl
 have qc:x.Bs[c].Name.size+x.Bs[c].Ps.length+x.Bs[c].F.length+x.Bs[c].V.sz=x.Bs[c].sz:=rfl
 have up:=hx.up x.Ls[k] (List.getElem_mem hk)
 have pa:ZQ x x.Ls[k].A x.Ls[k].P=some x.Bs[a].Ps[p]:=by
  unfold ZQ;rw[ea,ep,zK ha,bQ,zK hp]
 have pc:ZQ x x.Ls[k].B x.Ls[k].Q=some x.Bs[c].Ps[q]:=by
  unfold ZQ;rw[ec,eq,zK hc,bQ,zK hq]
 unfold zJt at up
 rw[pa,pc]at up
 have up:x.Bs[a].Ps[p].Up=x.Bs[c].Ps[q].Up:=Option.some.inj up
 obtain⟨u,u1,u2⟩:=hx.link x.Said k
 have u1':qV n x k=some u:=u1
 have hu:u=x.Bs[a].Ps[p].Up:=by
  unfold qV at u1'
  rw[zV,bQ,wQ,tQ (show(0:Int)≤k by omega),tQ (show(k:Int)≤(x.Ls.length:Int)-1 by omega),Bool.and_true,nQ,fQ,zK hk,bQ,ea,ep,ec,eq,zGp n x ha hp (by omega) (by omega),bQ,zGp n x hc hq (by omega) (by omega)]at u1'
  simp only[bQ]at u1'
  cases hh:x.Bs[a].Ps[p].Up with
  |false=>rw[hh]at u1';exact(Option.some.inj u1').symm
  |true=>rw[hh,cQ]at u1';rw[←Option.some.inj u1',←up];exact hh
 subst hu
 have has:∀(i j:Nat) (hi:i<x.Bs.length) (hj:j<x.Bs[i].Ps.length),x.Bs[i].Ps[j].Up=false→x.Bs[i].Ps[j].Has=false:=fun i j hi hj h=>by
  have s:=(hx.br hi).2.2
  have qs:x.Bs[i].Name.size+x.Bs[i].Ps.length+x.Bs[i].F.length+x.Bs[i].V.sz=x.Bs[i].sz:=rfl
  obtain⟨p1,p2,p3,p4,p5,p6,p7,p8,p9,p10,p11,p12,p13⟩:=qF n _ (by omega) (hx.br hi).1
  cases hh:x.Bs[i].Ps[j].Has with
  |false=>rfl
  |true=>have:=((JO n _ (p13 j hj)).2.1 hh).1;rw[h]at this;cases this
 exact⟨_,_,pa,pc,up,u1,u2,has a p ha hp,has c q hc hq⟩
theorem zLP(n:Nat)(v:Vec)(h1:1≤v.Root∧v.Root≤99)(h2:0≤v.Co∧v.Co≤100000)(h3:0≤v.Hops∧v.Hops≤10)(h4:1≤v.Bridge∧v.Bridge≤99)(h5:0≤v.Port∧v.Port≤7):qK n v=some true:=by
 unfold qK
 simp only[zV,bQ,tQ h1.1,tQ h1.2,tQ h2.1,tQ h2.2,tQ h3.1,tQ h3.2,tQ h4.1,tQ h4.2,tQ h5.1,tQ h5.2,Bool.and_self,cQ]
theorem zF5(n:Nat)(c:Src)(h:c.ok):∃v c',zBl n c=some (v,c')∧qK n v=some true∧c'.ok:=by
 obtain⟨v1,c1,e1,a1,b1,g1⟩:=zO n c 5 h
 obtain⟨v2,c2,e2,a2,g2⟩:=zo n c1 [0,1,2,5,10,100] g1 (by decide)
 obtain⟨v3,c3,e3,a3,g3⟩:=zo n c2 [0,1,2,9,10] g2 (by decide)
 obtain⟨v4,c4,e4,a4,b4,g4⟩:=zO n c3 5 g3
 obtain⟨v5,c5,e5,a5,b5,g5⟩:=zO n c4 4 g4
 have b1:=b1 (by decide)
 have b4:=b4 (by decide)
 have b5:=b5 (by decide)
 simp only[List.mem_cons,List.not_mem_nil,or_false]at a2 a3
 refine⟨⟨1+v1,v2,v3,1+v4,v5⟩,c5,?_,zLP n _ (by simp only;omega) (by simp only;omega) (by simp only;omega) (by simp only;omega) (by simp only;omega),g5⟩
 unfold zBl
 simp only[e1,e2,e3,e4,e5,bQ]
 rw[wQ (z:=1+v1),wQ (z:=1+v4)]
theorem zCL(n:Nat)(p:Nat)(hp:p≤1000):∀(m k:Nat) (ys:List Pt) (c:Src),k≤p→p<m+k→ys.length=k→c.ok→(∀q∈ys,qZ n q=some true∧q.wf)→∃(ys':List Pt) (c':Src),ZA n m p k ys c.b c.i c.h=some (.inl (ys',c'.b,c'.i,c'.h))∧ys'.length=p∧c'.ok∧∀q∈ys',qZ n q=some true∧q.wf
 |0,k,ys,c,h1,h2,_,_,_=>by omega
 | m + 1,k,ys,c,h1,h2,h3,h4,h5 => by
  rw[ZA]
  by_cases hk:k<p
  ·obtain⟨v1,c1,e1,g1⟩:=Yi n c 4 h4
   obtain⟨v2,c2,e2,a2,g2⟩:=zo n c1 [1,1,2,5,10] g1 (by decide)
   obtain⟨v3,c3,e3,g3⟩:=Yi n c2 4 g2
   obtain⟨v4,c4,e4,o4,g4⟩:=zF5 n c3 g3
   have hc:1≤v2∧v2≤1000:=by
    simp only[List.mem_cons,List.not_mem_nil,or_false]at a2
    omega
   have w2:qx v2:=zk (by omega) (by omega)
   have w4:=zCs n v4 o4
   have e1':Z6 n (⟨c.b,c.i,c.h⟩:Src) 4=some (v1,c1):=e1
   have hlen:∀u:Pt,decide (ys.length+ [u].length≤268435456)=true:=fun u=>tQ (by rw[List.length_singleton];omega)
   have ih:=fun(u:Pt) c' hc (hu:qZ n u=some true∧u.wf)=>zCL n p hp m (k+1) (ys++[u]) c' (by omega) (by omega) (by simp[h3]) hc (fun q hq=>by
    rcases List.mem_append.1 hq with hq|hq
    ·exact h5 q hq
    ·rw[List.mem_singleton]at hq;subst hq;exact hu)
   have ok0:∀up:Bool,qZ n ⟨up,v2,false,⟨0,0,0,0,0⟩⟩=some true∧(⟨up,v2,false,⟨0,0,0,0,0⟩⟩:Pt).wf:=fun up=>⟨zEr n v2 up hc,w2,zIO⟩
   simp only[qU hk,cQ,e1',e2,e3,e4,bQ,Yc,hlen,vQ k]
   cases v1 with
   |false=>
    simp only[Bool.not_false,cQ]
    cases v3 with
    |false=>simp only[Bool.not_false,cQ];exact ih _ c4 g4 ⟨zEs n v2 v4 hc o4,w2,w4⟩
    |true=>simp only[nQ,fQ];exact ih _ c3 g3 (ok0 true)
   |true=>simp only[nQ,fQ];exact ih _ c2 g2 (ok0 false)
  ·have he:k=p:=by omega
   rw[he,z6]
   exact⟨ys,c,rfl,by omega,h4,h5⟩
theorem zQX(e:zM):∀(xs:List zM),(xs.Pairwise fun a b=>JL a b.Tag b.Mac)→(zI1 e xs).Pairwise fun a b=>JL a b.Tag b.Mac
 |[],_=>by unfold zI1;exact List.pairwise_singleton _ _
 | v :: vs,h => by
  rw[List.pairwise_cons]at h
  unfold zI1
  by_cases h1:JL v e.Tag e.Mac
  ·rw[if_pos h1,List.pairwise_cons]
   refine⟨fun w hw=>?_,zQX e vs h.2⟩
   rcases zGN e vs w hw with rfl|hw
   ·exact h1
   ·exact h.1 w hw
  ·rw[if_neg h1]
   by_cases h2:v.Tag=e.Tag∧v.Mac=e.Mac
   ·rw[if_pos h2,List.pairwise_cons]
    refine⟨fun w hw=>?_,h.2⟩
    have:=h.1 w hw
    unfold JL at this⊢
    rw[←h2.1,←h2.2];exact this
   ·rw[if_neg h2,List.pairwise_cons,List.pairwise_cons]
    have hev:JL e v.Tag v.Mac:=by unfold JL at h1 ⊢; omega
    refine⟨fun w hw=>?_,h⟩
    rcases List.mem_cons.1 hw with rfl|hw
    ·exact hev
    ·have:=h.1 w hw
     unfold JL at this hev⊢
     omega
theorem zFa.put{xs:List zM}(hx:zFa xs)(e:zM)(he:zPa e)(h:xs.length<12∨∃k,∃hk:k<xs.length,xs[k].Tag=e.Tag∧xs[k].Mac=e.Mac):zFa (zI1 e xs):=by
 refine⟨?_,fun v hv=>?_,zQX e xs hx.2.2⟩
 ·rcases h with h|⟨k,hk,k1,k2⟩
  ·have:=zPC e xs;omega
  ·rw[zPD e xs k hk (fun j i hij hj=>List.pairwise_iff_getElem.1 hx.2.2 i j (by omega) hj hij) k1 k2,List.length_set]
   exact hx.1
 ·rcases zGN e xs v hv with rfl|hv
  ·exact he
  ·exact hx.2.1 v hv
theorem zFa.srt{xs:List zM}(hx:zFa xs):∀(j i:Nat) (hij:i<j) (hj:j<xs.length),JL (xs[i]'(by omega)) xs[j].Tag xs[j].Mac:=fun j i hij hj=>List.pairwise_iff_getElem.1 hx.2.2 i j (by omega) hj hij
theorem zGs(n:Nat)(v:zM):∃b,Zt n v=some b∧(b=true↔zPa v):=by
 obtain⟨b,hb⟩:=zD7 n v
 refine⟨b,hb,fun h=>?_,fun h=>?_⟩
 ·rw[h]at hb
  have:=zGt n v hb
  exact this
 ·have:=zHS n v h
  rw[hb]at this
  exact Option.some.inj this
theorem zGn(n:Nat)(xs:List zM)(t a p:Int)(hx:zFa xs)(hn:1048577<n):∃ys,zCV n xs t a p=some ys∧zFa ys∧(zPa ⟨t,a,p,0,false⟩→ys=zI1 ⟨t,a,p,0,false⟩ xs∨(ys=xs∧((∃k,∃hk:k<xs.length,xs[k].Tag=t∧xs[k].Mac=a)∨xs.length=12))):=by
 have h12:=hx.1
 have hcs:ZO n xs=some xs:=by unfold ZO;rw[tQ (by simp;omega)];rfl
 have hb:=zCo n xs (by omega) hx
 obtain⟨c,hc,hce⟩:=zGs n ⟨t,a,p,0,false⟩
 have hp:=zGu n xs ⟨t,a,p,0,false⟩ (by omega) (by omega) hx.srt
 unfold zCV
 rcases zIN n xs t a (by omega) (by omega)with⟨e,hne⟩|⟨k,hk,e,k1,k2⟩
 ·rw[e,bQ,hb,bQ,hc,bQ]
  cases c with
  |false=>exact⟨xs,by simp only[nQ,Bool.not_false,cQ,fQ,hcs,bQ],hx,fun he=>absurd (hce.2 he) (by simp)⟩
  | true =>
   simp only[nQ,fQ,dQ (show¬(-1:Int)≥0 by omega),tQ (show(-1:Int)<0 by omega),cQ,hp,bQ,hcs]
   by_cases hf:12≤xs.length
   ·rw[tQ (show(xs.length:Int)≥12 by omega)]
    exact⟨xs,rfl,hx,fun _=>.inr ⟨rfl,.inr (by omega)⟩⟩
   ·rw[dQ (show¬(xs.length:Int)≥12 by omega)]
    exact⟨_,rfl,hx.put _ (hce.1 rfl) (.inl (by omega)),fun _=>.inl rfl⟩
 ·rw[e,bQ,hb,bQ,hc,bQ]
  cases c with
  |false=>exact⟨xs,by simp only[nQ,Bool.not_false,cQ,fQ,hcs,bQ],hx,fun he=>absurd (hce.2 he) (by simp)⟩
  |true=>
   simp only[nQ,fQ,tQ (show((k:Nat):Int)≥0 by omega),dQ (show¬((k:Nat):Int)<0 by omega),cQ,hp,bQ,hcs,zK hk]
   cases xs[k].Sc with
   |true=>exact⟨xs,rfl,hx,fun _=>.inr ⟨rfl,.inl ⟨k,hk,k1,k2⟩⟩⟩
   |false=>exact⟨_,rfl,hx.put _ (hce.1 rfl) (.inr ⟨k,hk,k1,k2⟩),fun _=>.inl rfl⟩
theorem zEg(n:Nat)(xs:List zM)(t a p:Int)(hx:zFa xs)(hn:1048577<n):∃ys b,JP n xs t a p=some (ys,b)∧zFa ys∧∀v∈ys,v∈xs∨v=⟨t,a,p,0,true⟩:=by
 have h12:=hx.1
 have hcs:ZO n xs=some xs:=by unfold ZO;rw[tQ (by simp;omega)];rfl
 have hb:=zCo n xs (by omega) hx
 obtain⟨c,hc,hce⟩:=zGs n ⟨t,a,p,0,true⟩
 have hp:=zGu n xs ⟨t,a,p,0,true⟩ (by omega) (by omega) hx.srt
 unfold JP
 rw[hb,bQ,hc,bQ]
 cases c with
 |false=>exact⟨xs,false,by simp only[nQ,Bool.not_false,cQ,fQ,hcs,bQ],hx,fun v hv=>.inl hv⟩
 | true =>
  simp only[nQ,fQ]
  rcases zIN n xs t a (by omega) (by omega)with⟨e,hne⟩|⟨k,hk,e,k1,k2⟩
  ·rw[e]
   simp only[bQ,tQ (show(-1:Int)<0 by omega),cQ,hp,hcs]
   by_cases hf:12≤xs.length
   ·rw[tQ (show(xs.length:Int)≥12 by omega)]
    exact⟨xs,_,rfl,hx,fun v hv=>.inl hv⟩
   ·rw[dQ (show¬(xs.length:Int)≥12 by omega)]
    exact⟨_,_,rfl,hx.put _ (hce.1 rfl) (.inl (by omega)),fun v hv=>(zGN _ xs v hv).symm⟩
  ·rw[e]
   simp only[bQ,dQ (show¬((k:Nat):Int)<0 by omega),fQ,hp]
   exact⟨_,_,rfl,hx.put _ (hce.1 rfl) (.inr ⟨k,hk,k1,k2⟩),fun v hv=>(zGN _ xs v hv).symm⟩
theorem zTi:∀z<5,∀p<4,((q9 1048800 ((1+z:Nat):Int) ((1+p:Nat):Int)).any fun y=>decide (y.Id=((1+z:Nat):Int))&&(y.F.isEmpty&&(decide (y.Pa=0)&&(decide (y.Wo=0)&&decide (y.Dr=0)))))=true:=by decide+kernel
theorem zEw(n:Nat)(c:Src)(h:c.ok):∃v c',zAW n c=some (v,c')∧(11≤v∧v≤14)∧c'.ok:=by
 obtain⟨v,c',e,hv,g⟩:=zo n c [11,12,13,14] h (by decide)
 simp only[List.mem_cons,List.not_mem_nil,or_false]at hv
 unfold zAW
 rw[e]
 exact⟨v,c',rfl,by omega,g⟩
def PIn(q:Nat)(fs:List zM):Prop:=∀v∈fs,v.Sc=false→v.Port<q
def DrB(x:zA):Prop:=zg 1048800 x=some true∧x.wf∧x.sz≤40∧x.Dr=0∧zFa x.F∧VtG 1048800 x.Ps.length x.V∧(x.Ps.length≤4∧x.Tk≤4∧PIn x.Ps.length x.F)
theorem zEk(p:Nat)(r:Int×Src)(hr:r.1=p)(hp:p≤3):∀(m k:Nat) (c:Src) (fs:List zM),k<m→k≤1000→c.ok→zFa fs∧PIn (1+p) fs→∃(c':Src) (zs:List zM),c'.ok∧(zFa zs∧PIn (1+p) zs)∧Q4 1048800 m r k c.b c.i c.h fs=some (.inl (c'.b,c'.i,c'.h,zs))
 |0,k,c,fs,h,_,_,_=>by omega
 | m + 1,k,c,fs,h,h',hc,hf => by
  rw[Q4]
  by_cases hk:(k:Int)>0
  ·obtain⟨v1,c1,e1,a1,b1,g1⟩:=zO 1048800 c 3 hc
   obtain⟨v2,c2,e2,a2,g2⟩:=zEw 1048800 c1 g1
   obtain⟨v3,c3,e3,a3,b3,g3⟩:=zO 1048800 c2 (wI (1+r.1)) g2
   have b1:=b1 (by decide)
   have w1:wI (1+v1)=1+v1:=wQ
   have w3:wI (1+r.1)=((1+p:Nat):Int):=by rw[hr,wQ];omega
   have b3:=b3 (by rw[w3];omega)
   rw[w3]at b3
   obtain⟨ys,e4,f4,q4⟩:=zGn 1048800 fs (wI (1+v1)) v2 v3 hf.1 (by omega)
   have q4:=q4 ⟨by simp only[w1];omega,by simp only;omega,by simp only;omega,by simp only;omega,fun h=>by cases h⟩
   have p4:PIn (1+p) ys:=fun v hv hs=>by
    rcases q4 with q4|⟨q4,_⟩
    ·rw[q4]at hv
     rcases zGN _ fs v hv with rfl|hv
     ·exact b3
     ·exact hf.2 v hv hs
    ·rw[q4]at hv
     exact hf.2 v hv hs
   rw[tQ hk,cQ,show zP 1048800 ⟨c.b,c.i,c.h⟩ 3= _ from e1,bQ,e2,bQ,e3,bQ,e4,bQ,show wI ((k:Int)-1)=((k-1:Nat):Int)from by rw[wQ];omega]
   exact zEk p r hr hp m (k-1) c3 ys (by omega) (by omega) g3 ⟨f4,p4⟩
  ·rw[dQ hk,fQ]
   exact⟨c,fs,hc,hf,rfl⟩
theorem zJq(c:Src)(hc:c.ok):∃x c',zBy 1048800 c=some (x,c')∧DrB x∧c'.ok:=by
 obtain⟨v1,c1,e1,a1,b1,g1⟩:=zO 1048800 c 4 hc
 obtain⟨v2,c2,e2,a2,b2,g2⟩:=zO 1048800 c1 5 g1
 have b1:=b1 (by decide)
 have b2:=b2 (by decide)
 obtain⟨v1,rfl⟩:=Int.eq_ofNat_of_zero_le a1
 obtain⟨v2,rfl⟩:=Int.eq_ofNat_of_zero_le a2
 have t1:wI (1+(v1:Int))=((1+v1:Nat):Int):=by rw[wQ];omega
 have t2:wI (1+(v2:Int))=((1+v2:Nat):Int):=by rw[wQ];omega
 obtain⟨y,ey,hy⟩:∃y,q9 1048800 ((1+v2:Nat):Int) ((1+v1:Nat):Int)=some y∧y.Id=((1+v2:Nat):Int)∧y.F=[]∧y.Pa=0∧y.Wo=0∧y.Dr=0:=by
  have:=zTi v2 (by omega) v1 (by omega)
  cases hb:q9 1048800 ((1+v2:Nat):Int) ((1+v1:Nat):Int)with
  |none=>rw[hb]at this;cases this
  |some y=>
   rw[hb]at this
   simp only[Option.any_some,Bool.and_eq_true,decide_eq_true_eq,List.isEmpty_iff]at this
   exact⟨y,rfl,this.1,this.2.1,this.2.2.1,this.2.2.2.1,this.2.2.2.2⟩
 obtain⟨y1,y2,y3,y4,y5⟩:=hy
 obtain⟨nm,c3,e3,hnm,g3⟩:∃nm c',zAV 1048800 c2 [(⟨#[]⟩:ByteArray),(⟨#[121,97,114,100]⟩:ByteArray),(⟨#[98,49]⟩:ByteArray)]=some (nm,c')∧nm.size≤4∧c'.ok:=by
  obtain⟨v,c',e,a,b,g⟩:=zO 1048800 c2 (([(⟨#[]⟩:ByteArray),(⟨#[121,97,114,100]⟩:ByteArray),(⟨#[98,49]⟩:ByteArray)].length:Nat):Int) g2
  have b:=b (by decide)
  obtain⟨v,rfl⟩:=Int.eq_ofNat_of_zero_le a
  have b:v<3:=by simp only[List.length_cons,List.length_nil]at b;omega
  unfold zAV
  rw[e]
  have:v=0∨v=1∨v=2:=by omega
  rcases this with rfl|rfl|rfl
  ·exact⟨_,c',rfl,by decide,g⟩
  ·exact⟨_,c',rfl,by decide,g⟩
  ·exact⟨_,c',rfl,by decide,g⟩
 obtain⟨ps,c4,e4,l4,g4,w4⟩:=zCL 1048800 (1+v1) (by omega) 1048800 0 [] c3 (by omega) (by omega) rfl g3 (fun q hq=>by cases hq)
 obtain⟨vt,c5,e5,g5,h5⟩:=zGw (1+v1) (by omega) (by omega) c4 g4
 obtain⟨v6,c6,e6,a6,b6,g6⟩:=zO 1048800 c5 6 h5
 have b6:=b6 (by decide)
 obtain⟨v6,rfl⟩:=Int.eq_ofNat_of_zero_le a6
 obtain⟨c7,fs,g7,f7,e7⟩:=zEk v1 ((v1:Int),c1) rfl (by omega) 1048800 v6 c6 [] (by omega) (by omega) g6 ⟨⟨Nat.zero_le _,(fun v hv=>by cases hv),List.Pairwise.nil⟩,fun v hv=>by cases hv⟩
 have j2:∀(fs:List zM) (c:Src),zFa fs∧PIn (1+v1) fs→c.ok→∃x c',Yd 1048800 y (nm,c3) (ps,c4) (vt,c5) c.b c.i c.h fs=some (x,c')∧DrB x∧c'.ok:=fun fs c hf hc=>by
  obtain⟨u1,d1,k1,m1,n1,o1⟩:=zO 1048800 c 5 hc
  have n1:=n1 (by decide)
  obtain⟨u2,d2,k2,m2,o2⟩:=zo 1048800 d1 [0,1,5,1000000] o1 (by decide)
  simp only[List.mem_cons,List.not_mem_nil,or_false]at m2
  have hvs:=g5.sz
  obtain⟨hf,hf2⟩:=hf
  have h12:=hf.1
  refine⟨⟨y.Id,nm,ps,fs,vt,u1,y.Pa,y.Wo,y.Dr,u2⟩,d2,?_,⟨?_,?_,?_,y5,hf,by simp only;rw[l4];exact g5,by simp only;omega,by simp only;omega,by simp only;rw[l4];exact hf2⟩,o2⟩
  ·unfold Yd
   rw[show zP 1048800 ⟨c.b,c.i,c.h⟩ 5= _ from k1,bQ,k2]
   rfl
  ·refine zA3 1048800 _ (by simp only;omega) (by simp only;omega) (by simp only;omega) (by simp only;omega) (by simp only;omega) (by simp only;omega) (zCo 1048800 fs (by omega) hf) ?_ ⟨m1,by simp only;omega⟩ (by simp only;omega) (by simp only;omega) (by simp only;omega) ?_ (fun j hj=>(w4 _ (List.getElem_mem hj)).1)
   ·simp only;rw[l4];exact g5.2.2.2.1
   ·simp only;omega
  ·have z0:qx 0:=zk (by omega) (by omega)
   have hm:maxLen=9223372036854775807:=by decide
   refine⟨by simp only;rw[y1];exact zk (by omega) (by omega),by simp only;omega,⟨by simp only;omega,fun q hq=>(w4 q hq).2⟩,⟨by simp only;omega,fun v hv=>zLy (hf.2.1 v hv)⟩,g5.1.1,g5.1.2.1,iQ (z:=u1),by simp only;rw[y3];exact z0,by simp only;rw[y4];exact z0,by simp only;rw[y5];exact z0,iQ (z:=u2),trivial⟩
  ·show nm.size+ps.length+fs.length+vt.sz≤40
   omega
 have j1:∃x c',JR 1048800 ((v1:Int),c1) y (nm,c3) (ps,c4) (vt,c5) c7.b c7.i c7.h fs=some (x,c')∧DrB x∧c'.ok:=by
  unfold JR
  obtain⟨u1,d1,k1,o1⟩:=Yi 1048800 c7 3 g7
  rw[show Z6 1048800 ⟨c7.b,c7.i,c7.h⟩ 3= _ from k1,bQ]
  cases u1 with
  |false=>exact j2 fs d1 f7 o1
  | true =>
   obtain⟨u2,d2,k2,m2,o2⟩:=zEw 1048800 d1 o1
   obtain⟨u3,d3,k3,m3,n3,o3⟩:=zO 1048800 d2 (wI (1+(v1:Int))) o2
   obtain⟨ys,b,k4,f4,q4⟩:=zEg 1048800 fs 1 u2 u3 f7.1 (by omega)
   simp only[cQ,k2,k3,k4,bQ]
   exact j2 ys d3 ⟨f4,fun v hv hs=>by
    rcases q4 v hv with h|rfl
    ·exact f7.2 v h hs
    ·cases hs⟩ o3
 obtain⟨x,c8,e8,h8⟩:=j1
 refine⟨x,c8,?_,h8⟩
 have e4':Yv 1048800 c3 ((1+v1:Nat):Int)=some (ps,c4):=by
  unfold Yv
  rw[show ZA 1048800 1048800 ((1+v1:Nat):Int) 0 ([]:List Pt) c3.b c3.i c3.h= _ from e4]
  rfl
 unfold zBy
 simp only[e1,bQ,e2,t1,t2,ey,e3,e4',e5,e6,y2]
 rw[show Q4 1048800 1048800 ((v1:Int),c1) v6 c6.b c6.i c6.h []= _ from e7]
 exact e8
def lx2(a b:Int×Int):Prop:=a.1<b.1∨(a.1=b.1∧a.2<b.2)
instance (a b:Int×Int):Decidable (lx2 a b):=inferInstanceAs (Decidable (_∨_))
inductive zPV (N:Nat) (ids:Nat→Int) (E:Nat→Nat→Int→Int→Prop):Nat→Int→Int→Prop
 |own (i:Nat):i<N→zPV N ids E i (ids i) 0
 |step (i j:Nat) (w q r c:Int):i<N→E i j w q→zPV N ids E j r c→zPV N ids E i r (c+w)
def le4(a b:Int×Int×Int×Int):Prop:=a.1<b.1∨(a.1=b.1∧(a.2.1<b.2.1∨(a.2.1=b.2.1∧(a.2.2.1<b.2.2.1∨(a.2.2.1=b.2.2.1∧a.2.2.2≤b.2.2.2)))))
def zSG(v:Int×Int×Int)(w:Int):Prop:=v.2.1+w≤100000∧v.2.2+1≤10
theorem zQw(P:Nat→Prop)(h:∃n,P n):∃n,P n∧∀m,P m→n≤m:=by
 obtain⟨n,hn⟩:=h
 induction n using Nat.strongRecOn with
 | ind n ih =>
  by_cases h:∃m,m<n∧P m
  ·obtain⟨m,h1,h2⟩:=h
   exact ih m h1 h2
  ·refine⟨n,hn,fun m hm=>?_⟩
   by_cases hmn:n≤m
   ·exact hmn
   ·exact absurd ⟨m,by omega,hm⟩ h
theorem filter_lt{α:Type}(p q:α→Bool)(h:∀a,p a=true→q a=true):∀(l:List α),(l.filter p).length≤(l.filter q).length∧((∃a∈l,q a=true∧p a=false)→(l.filter p).length<(l.filter q).length)
 |[]=>⟨Nat.le_refl _,fun⟨a,ha,_⟩=>by cases ha⟩
 | x :: xs => by
  obtain⟨h1,h2⟩:=filter_lt p q h xs
  simp only[List.filter_cons]
  cases hp:p x with
  | true =>
   rw[h x hp]
   refine⟨by simp;omega,fun⟨a,ha,ha1,ha2⟩=>?_⟩
   rcases List.mem_cons.1 ha with rfl|ha
   ·rw[hp]at ha2;cases ha2
   ·have:=h2 ⟨a,ha,ha1,ha2⟩
    simp;omega
  | false =>
   cases hq:q x with
   |true=>
    refine⟨by simp;omega,fun _=>by simp;omega⟩
   |false=>
    refine⟨by simpa using h1,fun⟨a,ha,ha1,ha2⟩=>?_⟩
    rcases List.mem_cons.1 ha with rfl|ha
    ·rw[hq]at ha1;cases ha1
    ·simpa using h2 ⟨a,ha,ha1,ha2⟩
theorem zPV.nn{N:Nat}{ids:Nat→Int}{E:Nat→Nat→Int→Int→Prop}(hE:∀i j w q,E i j w q→1≤w∧w≤1000∧j<N)(hid:∀i,i<N→1≤ids i){i:Nat}{r c:Int}(h:zPV N ids E i r c):1≤r∧0≤c:=by
 induction h with
 |own i hi=>exact⟨hid i hi,by omega⟩
 |step i j w q r c hi he _ ih=>have:=hE i j w q he;exact⟨ih.1,by omega⟩
theorem le4.trans{a b c:Int×Int×Int×Int}(h1:le4 a b)(h2:le4 b c):le4 a c:=by
 unfold le4 at*
 omega
theorem le4.rfl'(a:Int×Int×Int×Int):le4 a a:=by
 unfold le4
 omega
theorem zO0(n:Nat)(v:Vec)(h:qK n v=some true):(1≤v.Root∧v.Root≤99)∧(0≤v.Co∧v.Co≤100000)∧(0≤v.Hops∧v.Hops≤10)∧(1≤v.Bridge∧v.Bridge≤99)∧(0≤v.Port∧v.Port≤7):=by
 unfold qK at h
 simp only[zV,bQ]at h
 cases h1:(decide (1≤v.Root)&&decide (v.Root≤99))with
 |false=>rw[h1]at h;cases h
 | true =>
  cases h2:(decide (0≤v.Co)&&decide (v.Co≤100000))with
  |false=>rw[h1,h2]at h;cases h
  | true =>
   cases h3:(decide (0≤v.Hops)&&decide (v.Hops≤10))with
   |false=>rw[h1,h2,h3]at h;cases h
   | true =>
    cases h4:(decide (1≤v.Bridge)&&decide (v.Bridge≤99))with
    |false=>rw[h1,h2,h3,h4]at h;cases h
    |true=>
     rw[h1,h2,h3,h4]at h
     simp only[cQ,Option.some.injEq,Bool.and_eq_true,decide_eq_true_eq]at h h1 h2 h3 h4
     exact⟨h1,h2,h3,h4,h⟩
def zUg(p:Pt):Prop:=p.Hd.Co+p.Co≤100000∧p.Hd.Hops+1≤10
def zUe(v:Vec)(c:Int):Vec:=⟨v.Root,v.Co+c,v.Hops+1,v.Bridge,v.Port⟩
def zRN(id:Int)(p:Pt):Prop:=p.Up=true∧p.Has=true∧zUg p∧p.Hd.Root<id
def zUq(p:Pt):Int×Int×Int×Int:=(p.Hd.Root,p.Hd.Co+p.Co,p.Hd.Bridge,p.Hd.Port)
def zST(id:Int)(l:List Pt)(k:Nat)(y2 y3 y4 y5 y6 y7 y8 y9 y10:Int):Prop:=
 (y2<0∧y8=id∧y9=0∧y10=0∧∀j (hj:j<l.length),j<k→¬zRN id l[j])∨
 (0≤y2∧∃j,∃hj:j<l.length,(zRN id l[j]∧y2=(j:Int))∧(⟨y3,y4,y5,y6,y7⟩:Vec)=zUe l[j].Hd l[j].Co∧y8=y3∧y9=y4∧y10=y5∧∀j' (hj':j'<l.length),j'<k→zRN id l[j']→le4 (zUq l[j]) (zUq l[j']))
theorem zST.skip{id:Int}{l:List Pt}{k:Nat}{y2 y3 y4 y5 y6 y7 y8 y9 y10:Int}(h:zST id l k y2 y3 y4 y5 y6 y7 y8 y9 y10)(hk:∀hk:k<l.length,¬zRN id l[k]):zST id l (k+1) y2 y3 y4 y5 y6 y7 y8 y9 y10:=by
 rcases h with⟨a,b,c,d,e⟩|⟨a,j,hj,b,c,d,e,f,g⟩
 ·refine .inl ⟨a,b,c,d,fun j hj hjk=>?_⟩
  by_cases hjk':j=k
  ·subst hjk';exact hk hj
  ·exact e j hj (by omega)
 ·refine .inr ⟨a,j,hj,b,c,d,e,f,fun j' hj' hjk hc=>?_⟩
  by_cases hjk':j'=k
  ·subst hjk';exact absurd hc (hk hj')
  ·exact g j' hj' (by omega) hc
def zTE(l:Link)(i p j q:Int):Prop:=(l.A=i∧l.P=p∧l.B=j∧l.Q=q)∨(l.B=i∧l.Q=p∧l.A=j∧l.P=q)
theorem zPo{x:Net}{i:Nat}(hi:i<x.Bs.length){p:Int}{pt:Pt}(h:ZQ x i p=some pt):∃p':Nat,p=p'∧∃hp:p'<x.Bs[i].Ps.length,x.Bs[i].Ps[p']=pt:=by
 obtain⟨v,h1,h2⟩:=Y3 h
 rw[zK hi]at h1
 obtain rfl:=Option.some.inj h1
 exact zHb h2
inductive zBs (W:Nat→Nat→Int→Prop) (root:Nat):Nat→Int→Prop
 |start:zBs W root root 0
 |step (a b:Nat) (d c:Int):zBs W root a d→W a b c→zBs W root b (d+c)
theorem zBs.nnT{W:Nat→Nat→Int→Prop}{root N:Nat}(hr:root<N)(hW:∀a b c,W a b c→a<N∧b<N∧1≤c){i:Nat}{d:Int}(h:zBs W root i d):0≤d∧i<N:=by
 induction h with
 |start=>exact⟨Int.le_refl _,hr⟩
 |step a b d c _ w ih=>have:=hW _ _ _ w;exact⟨by omega,this.2.1⟩
structure AgN (N:Nat) (ids:Nat→Int) (V:Nat→Int×Int×Int) (rp:Nat→Int) (Ed:Nat→Nat→Int→Int→Nat→Int→Prop):Prop where
 n6:N≤6
 inj:∀i j,i<N→j<N→ids i=ids j→i=j
 rng:∀k i p w j q,Ed k i p w j q→i<N∧j<N∧i≠j∧1≤w∧w≤1000∧0≤p
 sym:∀k i p w j q,Ed k i p w j q→∃w',Ed k j q w' i p
 two:∀k i p w j q i' p' w' j' q',Ed k i p w j q→Ed k i' p' w' j' q'→(i'=i∧p'=p∧w'=w∧j'=j∧q'=q)∨(i'=j∧p'=q∧j'=i∧q'=p)
 one:∀k k' i p w j q w' j' q',Ed k i p w j q→Ed k' i p w' j' q'→k'=k
 hop:∀i,i<N→0≤(V i).2.2
 know:∀i,i<N→(rp i<0∧V i=(ids i,0,0)∧∀k p w j q,Ed k i p w j q→zSG (V j) w→ids i≤(V j).1)∨
  ∃k w j q,Ed k i (rp i) w j q∧(V j).1<ids i∧V i=((V j).1,(V j).2.1+w,(V j).2.2+1)∧∀k' p' w' j' q',Ed k' i p' w' j' q'→zSG (V j') w'→(V j').1<ids i→(V j).1≤(V j').1
theorem AgN.upA{N ids V rp Ed}(h:AgN N ids V rp Ed){k i w j q}(e:Ed k i (rp i) w j q):V i=((V j).1,(V j).2.1+w,(V j).2.2+1):=by
 have r:=h.rng _ _ _ _ _ _ e
 rcases h.know i r.1 with⟨e0,_⟩|⟨k',w',j',q',e',e2,e3,_⟩
 ·omega
 ·have:=h.one _ _ _ _ _ _ _ _ _ _ e e'
  subst this
  rcases h.two _ _ _ _ _ _ _ _ _ _ _ e e' with⟨_,_,rfl,rfl,_⟩|⟨a,_⟩
  ·exact e3
  ·exact absurd a r.2.2.1
inductive zFn (rp:Nat→Int) (Ed:Nat→Nat→Int→Int→Nat→Int→Prop) (c:Nat):Nat→Prop
 |self:zFn rp Ed c c
 |step (k i:Nat) (w:Int) (j:Nat) (q:Int):Ed k i (rp i) w j q→zFn rp Ed c j→zFn rp Ed c i
theorem AgN.behindT{N ids V rp Ed}(h:AgN N ids V rp Ed){c i:Nat}(b:zFn rp Ed c i):(V c).2.2≤(V i).2.2:=by
 induction b with
 |self=>exact Int.le_refl _
 |step k i w j q e _ ih=>
  have:=congrArg (·.2.2) (h.upA e)
  simp only at this
  omega
theorem AgN.apart{N ids V rp Ed}(h:AgN N ids V rp Ed){k c w d q}(e:Ed k c (rp c) w d q):zFn rp Ed c c∧¬zFn rp Ed c d∧∀k' i p w' j q',k'≠k→Ed k' i p w' j q'→rp i=p→(zFn rp Ed c i↔zFn rp Ed c j):=by
 refine⟨.self,fun b=>?_,fun k' i p w' j q' hk e' hp=>⟨fun b=>?_,fun b=>?_⟩⟩
 ·have:=h.behindT b
  have:=congrArg (·.2.2) (h.upA e)
  simp only at this
  omega
 ·subst hp
  cases b with
  |self=>exact absurd (h.one _ _ _ _ _ _ _ _ _ _ e e') hk
  |step k2 _ w2 j2 q2 e2 b=>
   have:=h.one _ _ _ _ _ _ _ _ _ _ e' e2
   subst this
   rcases h.two _ _ _ _ _ _ _ _ _ _ _ e' e2 with⟨_,_,_,rfl,_⟩|⟨a,_⟩
   ·exact b
   ·exact absurd a (h.rng _ _ _ _ _ _ e').2.2.1
 ·subst hp
  exact .step _ _ _ _ _ e' b
def zQJ(v:Vec):Prop:=(-1≤v.Root∧v.Root≤100)∧(-1≤v.Co∧v.Co≤100001)∧(-1≤v.Hops∧v.Hops≤11)∧(-1≤v.Bridge∧v.Bridge≤99)∧(-1≤v.Port∧v.Port≤8)
theorem zFO(n:Nat)(c:Src)(h:c.ok):∃v c',zCY n c=some (v,c')∧zQJ v∧c'.ok:=by
 obtain⟨v1,c1,e1,w1,h1⟩:=zF5 n c h
 obtain⟨p1,p2,p3,p4,p5⟩:=zO0 n v1 w1
 obtain⟨v2,c2,e2,a2,b2,h2⟩:=zO n c1 12 h1
 obtain⟨v3,c3,e3,a3,h3⟩:=zo n c2 [0,99,100] h2 (by decide)
 obtain⟨v4,c4,e4,a4,h4⟩:=zo n c2 [(-1),99999,100000,100001] h2 (by decide)
 obtain⟨v5,c5,e5,a5,h5⟩:=zo n c2 [(-1),11] h2 (by decide)
 obtain⟨v6,c6,e6,a6,h6⟩:=zo n c2 [(-1),7,8] h2 (by decide)
 simp only[List.mem_cons,List.not_mem_nil,or_false]at a3 a4 a5 a6
 unfold zCY
 simp only[e1,e2,e3,e4,e5,e6,bQ]
 cases(v2==0)with
 |true=>exact⟨_,_,rfl,⟨by simp only;omega,by simp only;omega,by simp only;omega,by simp only;omega,by simp only;omega⟩,h3⟩
 |false=>
 cases(v2==1)with
 |true=>exact⟨_,_,rfl,⟨by simp only;omega,by simp only;omega,by simp only;omega,by simp only;omega,by simp only;omega⟩,h4⟩
 |false=>
 cases(v2==2)with
 |true=>exact⟨_,_,rfl,⟨by simp only;omega,by simp only;omega,by simp only;omega,by simp only;omega,by simp only;omega⟩,h5⟩
 |false=>
 cases(v2==3)with
 |true=>exact⟨_,_,rfl,⟨by simp only;omega,by simp only;omega,by simp only;omega,by simp only;omega,by simp only;omega⟩,h6⟩
 |false=>exact⟨_,_,rfl,⟨by omega,by omega,by omega,by omega,by omega⟩,h2⟩
theorem zQJ.wf{v:Vec}(h:zQJ v)(u:Bool)(c:Int)(b:Bool)(hc: -1000000≤c)(hc':c≤1000000):(⟨u,c,b,v⟩:Pt).wf:=by
 obtain⟨p1,p2,p3,p4,p5⟩:=h
 exact⟨zk hc hc',iQ (z:=v.Root),iQ (z:=v.Co),iQ (z:=v.Hops),iQ (z:=v.Bridge),iQ (z:=v.Port),trivial⟩
theorem zKt(n:Nat)(c:Src)(h:c.ok)(hn:1000<n):∃ys c',zC5 n c=some (ys,c')∧(1≤ys.length∧ys.length≤4)∧(∀q∈ys,q.wf)∧c'.ok:=by
 obtain⟨v1,c1,e1,a1,b1,g1⟩:=zO n c 4 h
 have b1:=b1 (by omega)
 obtain⟨v1,rfl⟩:=Int.eq_ofNat_of_zero_le a1
 obtain⟨ys,c2,e2,l2,g2,w2⟩:=zCL n (1+v1) (by omega) n 0 [] c1 (by omega) (by omega) rfl g1 (fun q hq=>by cases hq)
 have e2:Yv n c1 (wI (1+(v1:Int)))=some (ys,c2):=by
  rw[show wI (1+(v1:Int))=((1+v1:Nat):Int)from by rw[wQ];omega]
  unfold Yv
  rw[show ZA n n ((1+v1:Nat):Int) 0 ([]:List Pt) c1.b c1.i c1.h= _ from e2]
  rfl
 obtain⟨v3,c3,e3,a3,b3,g3⟩:=zO n c2 12 g2
 obtain⟨v4,c4,e4,s4,g4⟩:=zFO n c3 g3
 obtain⟨v5,c5,e5,a5,g5⟩:=zo n c3 [0,1000,1001] g3 (by decide)
 simp only[List.mem_cons,List.not_mem_nil,or_false]at a5
 have h0:0<ys.length:=by omega
 have hu:idx ys 0=some ys[0]:=zK h0
 have wu:=(w2 _ (List.getElem_mem h0)).2
 have pu:=(JO n _ (w2 _ (List.getElem_mem h0)).1).1
 obtain⟨q1,q2⟩:=wu
 unfold zC5
 simp only[e1,bQ,e2,e3,e4,e5,hu]
 have hset:∀u:Pt,u.wf→∀q∈ys.set ((0:Int)).toNat u,q.wf:=fun u hu q hq=>by
  rcases List.mem_or_eq_of_mem_set hq with h|h
  ·exact(w2 q h).2
  ·rw[h];exact hu
 have hs:∀u:Pt,1≤(ys.set ((0:Int)).toNat u).length∧(ys.set ((0:Int)).toNat u).length≤4:=fun u=>by rw[List.length_set];omega
 cases(v3==0)with
 |true=>exact⟨_,_,rfl,hs _,hset _ (s4.wf _ _ _ (by omega) (by omega)),g4⟩
 |false=>
 cases(v3==1)with
 |true=>exact⟨_,_,rfl,hs _,hset _ ⟨iQ (z:=v5),q2⟩,g5⟩
 |false=>
 cases(v3==2)with
 |true=>exact⟨_,_,rfl,hs _,hset _ ⟨q1,q2⟩,g3⟩
 |false=>exact⟨_,_,rfl,by omega,fun q hq=>(w2 q hq).2,g3⟩
theorem zFQ(n:Nat)(hn:1048577<n):∀(m k:Nat) (fs:List zM) (c:Src),k<m→k≤1000→c.ok→zFa fs→∃(zs:List zM) (c':Src),c'.ok∧zFa zs∧QK n m k fs c.b c.i c.h=some (.inl (zs,c'.b,c'.i,c'.h))
 |0,k,fs,c,h,_,_,_=>by omega
 | m + 1,k,fs,c,h,h',hc,hf => by
  rw[QK]
  by_cases hk:(k:Int)>0
  ·obtain⟨v1,c1,e1,a1,b1,g1⟩:=zO n c 6 hc
   rw[tQ hk,cQ,show zP n ⟨c.b,c.i,c.h⟩ 6= _ from e1,bQ,show wI ((k:Int)-1)=((k-1:Nat):Int)from by rw[wQ];omega]
   have ih:=fun zs c' hc' hf'=>zFQ n hn m (k-1) zs c' (by omega) (by omega) hc' hf'
   obtain⟨v2,c2,e2,a2,b2,g2⟩:=zO n c1 3 g1
   obtain⟨v3,c3,e3,a3,g3⟩:=zEw n c2 g2
   cases(v1==0)with
   |true=>
    obtain⟨v4,c4,e4,a4,b4,g4⟩:=zO n c3 4 g3
    obtain⟨ys,b,e5,f5,_⟩:=zEg n fs (wI (1+v2)) v3 v4 hf hn
    simp only[cQ,e2,e3,e4,e5,bQ]
    exact ih ys c4 g4 f5
   |false=>
   cases(v1==1)with
   |true=>
    simp only[cQ,fQ,zDK n fs hf (by omega),bQ]
    exact ih _ c1 g1 hf.age
   |false=>
    obtain⟨v4,c4,e4,a4,b4,g4⟩:=zO n c3 3 g3
    obtain⟨v5,c5,e5,a5,b5,g5⟩:=zO n c4 4 g4
    obtain⟨ys,e6,f6,_⟩:=zGn n fs (wI (1+v2)) (wI (v3+v4)) v5 hf hn
    simp only[fQ,e2,e3,e4,e5,e6,bQ]
    exact ih ys c5 g5 f6
  ·rw[dQ hk,fQ]
   exact⟨fs,c,hc,hf,rfl⟩
theorem zK1(n:Nat)(hn:1048577<n)(c:Src)(hc:c.ok):∃(zs:List zM) (c':Src),zDA n c=some (zs,c')∧zFa zs∧c'.ok:=by
 obtain⟨v,c1,e1,a1,b1,g1⟩:=zO n c 10 hc
 have b1:=b1 (by decide)
 obtain⟨v,rfl⟩:=Int.eq_ofNat_of_zero_le a1
 obtain⟨zs,c2,g2,f2,e2⟩:=zFQ n hn n v [] c1 (by omega) (by omega) g1 ⟨Nat.zero_le _,(fun v hv=>by cases hv),List.Pairwise.nil⟩
 refine⟨zs,c2,?_,f2,g2⟩
 unfold zDA
 rw[e1,bQ,show QK n n v ([]:List zM) c1.b c1.i c1.h= _ from e2]
 rfl
def zIH(v:zM):Prop:=(0≤v.Tag∧v.Tag≤100)∧(0≤v.Mac∧v.Mac≤9999)∧(-1≤v.Port∧v.Port≤8)∧(-1≤v.Age∧v.Age≤5)
theorem zIH.of{v:zM}(h:zPa v):zIH v:=by
 obtain⟨a,b,c,d,_⟩:=h
 exact⟨by omega,by omega,by omega,by omega⟩
theorem zIH.wf{v:zM}(h:zIH v):v.wf:=by
 obtain⟨a,b,c,d⟩:=h
 exact⟨iQ (z:=v.Tag),iQ (z:=v.Mac),iQ (z:=v.Port),iQ (z:=v.Age),trivial⟩
theorem zF6(n:Nat):∀(m k:Nat) (fs:List zM) (c:Src),14<m+k→k≤13→fs.length≤12+k→c.ok→(∀v∈fs,zIH v)→∃(zs:List zM) (c':Src),c'.ok∧zs.length≤25∧(∀v∈zs,zIH v)∧Yy n m k fs c.b c.i c.h=some (.inl (zs,c'.b,c'.i,c'.h))
 |0,k,fs,c,h,_,_,_,_=>by omega
 | m + 1,k,fs,c,h,h',hl,hc,hf => by
  rw[Yy]
  obtain⟨v1,c1,e1,a1,b1,g1⟩:=zO n c 3 hc
  have b1:=b1 (by decide)
  rw[show zP n ⟨c.b,c.i,c.h⟩ 3= _ from e1,bQ,wQ (z:=11+v1)]
  by_cases hk:(k:Int)<11+v1
  ·rw[tQ hk,cQ,tQ (by simp;omega),cQ,vQ k,wQ (z:=100+(k:Int))]
   exact zF6 n m (k+1) _ c1 (by omega) (by omega) (by simp;omega) g1 fun v hv=>by
    rcases List.mem_append.1 hv with hv|hv
    ·exact hf v hv
    ·rw[List.mem_singleton.1 hv]
     exact⟨by simp only;omega,by simp only;omega,by simp only;omega,by simp only;omega⟩
  ·rw[dQ hk,fQ]
   exact⟨fs,c1,g1,by omega,hf,rfl⟩
theorem zLX(n:Nat)(hn:1048577<n)(c:Src)(hc:c.ok):∃(zs:List zM) (c':Src),zD2 n c=some (zs,c')∧zs.length≤25∧(∀v∈zs,zIH v)∧c'.ok:=by
 obtain⟨fs,c1,e1,f1,g1⟩:=zK1 n hn c hc
 obtain⟨v2,c2,e2,a2,b2,g2⟩:=zO n c1 12 g1
 obtain⟨v3,c3,e3,a3,g3⟩:=zo n c2 [0,1,99,100] g2 (by decide)
 obtain⟨v4,c4,e4,a4,g4⟩:=zo n c3 [0,1,9999] g3 (by decide)
 obtain⟨v5,c5,e5,a5,g5⟩:=zo n c4 [(-1),7,8] g4 (by decide)
 obtain⟨v6,c6,e6,a6,g6⟩:=zo n c5 [(-1),4,5] g5 (by decide)
 simp only[List.mem_cons,List.not_mem_nil,or_false]at a3 a4 a5 a6
 have h12:=f1.1
 have sm:∀v∈fs,zIH v:=fun v hv=>.of (f1.2.1 v hv)
 obtain⟨zs,c7,g7,l7,s7,e7⟩:=zF6 n n 0 fs c2 (by omega) (by omega) (by omega) g2 sm
 unfold zD2
 simp only[e1,e2,e3,e4,e5,e6,bQ]
 cases(v2==0)with
 | true =>
  rw[cQ,tQ (by simp;omega),cQ]
  refine⟨_,_,rfl,by simp;omega,fun v hv=>?_,g6⟩
  rcases List.mem_append.1 hv with hv|hv
  ·exact sm v hv
  ·rw[List.mem_singleton.1 hv]
   exact⟨by simp only;omega,by simp only;omega,by simp only;omega,by simp only;omega⟩
 |false=>
 cases(v2==1)with
 |true=>
  rw[fQ,cQ,show Yy n n 0 fs c2.b c2.i c2.h= _ from e7]
  exact⟨zs,c7,rfl,l7,s7,g7⟩
 |false=>exact⟨fs,c2,rfl,by omega,sm,g2⟩
theorem zNq{z:Int}(h0: -1000000000≤z)(h1:z≤1000000000):qx z:=by
 show(Lit.int .i64 z).wf=true
 simp[Lit.wf,show wI z=z from wQ]
 exact⟨by show(-9223372036854775808:Int)≤z;omega,by omega⟩
theorem zKu(c:Src)(hc:c.ok):∃x c',zC6 1048800 c=some (x,c')∧x.wf∧x.sz≤1100∧c'.ok:=by
 obtain⟨x,c1,e1,h1,g1⟩:=zJq c hc
 obtain⟨v2,c2,e2,a2,b2,g2⟩:=zO 1048800 c1 16 g1
 obtain⟨v3,c3,e3,a3,g3⟩:=zo 1048800 c2 [0,99,100] g2 (by decide)
 obtain⟨nm,c4,e4,hnm,g4⟩:∃nm c',zAV 1048800 c2 [(⟨#[116,101,110,45,98,121,116,101,115,45]⟩:ByteArray),(⟨#[101,108,101,118,101,110,45,98,121,116,101]⟩:ByteArray)]=some (nm,c')∧nm.size≤11∧c'.ok:=by
  obtain⟨v,c',e,a,b,g⟩:=zO 1048800 c2 (([(⟨#[116,101,110,45,98,121,116,101,115,45]⟩:ByteArray),(⟨#[101,108,101,118,101,110,45,98,121,116,101]⟩:ByteArray)].length:Nat):Int) g2
  have b:=b (by decide)
  obtain⟨v,rfl⟩:=Int.eq_ofNat_of_zero_le a
  have b:v<2:=by simp only[List.length_cons,List.length_nil]at b;omega
  unfold zAV
  rw[e]
  have:v=0∨v=1:=by omega
  rcases this with rfl|rfl
  ·exact⟨_,c',rfl,by decide,g⟩
  ·exact⟨_,c',rfl,by decide,g⟩
 obtain⟨ps,c5,e5,l5,w5,g5⟩:=zKt 1048800 c2 g2 (by omega)
 obtain⟨fs,c6,e6,l6,w6,g6⟩:=zLX 1048800 (by omega) c2 g2
 obtain⟨vt,p7,c7,e7,w7,_,g7⟩:=zLY c2 g2
 have s7:=w7.sz
 obtain⟨v8,c8,e8,a8,g8⟩:=zo 1048800 c2 [(-1),1000000,1000001] g2 (by decide)
 simp only[List.mem_cons,List.not_mem_nil,or_false]at a3 a8
 have hs:x.Name.size+x.Ps.length+x.F.length+x.V.sz=x.sz:=rfl
 have h40:=h1.2.2.1
 have hm:maxLen=9223372036854775807:=by decide
 obtain⟨i1,i2,i3,i4,i5,i6,i7,i8,i9,i10,i11,_⟩:=h1.2.1
 unfold zC6
 simp only[e1,e2,e3,e4,e5,e6,e7,e8,bQ]
 cases(v2==0)with
 |true=>exact⟨_,_,rfl,⟨iQ (z:=v3),i2,i3,i4,i5,i6,i7,i8,i9,i10,i11,trivial⟩,by simp only[zA.sz];omega,g3⟩
 |false=>
 cases(v2==1)with
 |true=>exact⟨_,_,rfl,⟨i1,by simp only;omega,i3,i4,i5,i6,i7,i8,i9,i10,i11,trivial⟩,by simp only[zA.sz];omega,g4⟩
 |false=>
 cases(v2==2)with
 |true=>exact⟨_,_,rfl,⟨i1,i2,⟨by simp only;omega,w5⟩,i4,i5,i6,i7,i8,i9,i10,i11,trivial⟩,by simp only[zA.sz];omega,g5⟩
 |false=>
 cases(v2==3)with
 |true=>exact⟨_,_,rfl,⟨i1,i2,i3,⟨by simp only;omega,fun v hv=>(w6 v hv).wf⟩,i5,i6,i7,i8,i9,i10,i11,trivial⟩,by simp only[zA.sz];omega,g6⟩
 |false=>
 cases(v2==4)with
 |true=>exact⟨_,_,rfl,⟨i1,i2,i3,i4,w7.1.1,w7.1.2.1,i7,i8,i9,i10,i11,trivial⟩,by simp only[zA.sz];omega,g7⟩
 |false=>
 cases(v2==5)with
 |true=>exact⟨_,_,rfl,⟨i1,i2,i3,i4,i5,i6,i7,i8,i9,(zNq (z:=v8) (by omega) (by omega)),i11,trivial⟩,by simp only[zA.sz];omega,g8⟩
 |false=>exact⟨_,_,rfl,⟨i1,i2,i3,i4,i5,i6,i7,i8,i9,i10,i11,trivial⟩,by omega,g2⟩
def EdN(n:Nat)(x:Net)(k i:Nat)(p w:Int)(j:Nat)(q:Int):Prop:=∃hk:k<x.Ls.length,qD n x k=some true∧zTE x.Ls[k] i p j q∧i<x.Bs.length∧j<x.Bs.length∧(ZQ x i p).map (·.Co)=some w
def zM6(x:Net)(l:List Int)(i j:Nat):Prop:=∃z∈l,∃lk,idx x.Ls z=some lk∧lk.A=i∧lk.B=j∧i<x.Bs.length∧j<x.Bs.length
theorem zPY{x:Net}{l:List Int}{S:Nat→Prop} :JJ x l 0 (fun z=>S z.toNat)↔∀i j,zM6 x l i j→(S i↔S j):=by
 constructor
 ·rintro h i j ⟨z,hz,lk,hlk,hA,hB,hi,hj⟩
  obtain⟨k,hk,rfl⟩:=List.getElem_of_mem hz
  have:=h k _ lk (Nat.zero_le _) (List.getElem?_eq_getElem hk) hlk (by omega) (by omega) (by omega) (by omega)
  rw[hA,hB]at this
  simpa using this
 ·intro h k z lk _ hz hlk a0 a1 b0 b1
  obtain⟨i,hi⟩:=Int.eq_ofNat_of_zero_le a0
  obtain⟨j,hj⟩:=Int.eq_ofNat_of_zero_le b0
  have:=h i j ⟨z,List.mem_of_getElem? hz,lk,hlk,hi,hj,by omega,by omega⟩
  rw[hi,hj]
  simpa using this
theorem zFr(n:Nat)(x:Net)(b:Nat)(l:List Int)(hb:b<x.Bs.length)(hN:x.Bs.length≤1048576)(hK:x.Ls.length≤1048600)(hl:l.length≤1048590)(hn:1048700<n):∃f:Nat→Bool,qg n x b l=some (((List.range' 0 x.Bs.length).filter f).map fun j:Nat=>(j:Int))∧f b=true∧(∀i j,zM6 x l i j→(f i=true↔f j=true))∧∀S:Nat→Prop,(∀i j,zM6 x l i j→(S i↔S j))→S b→∀j,f j=true→S j:=by
 have hb':0≤(b:Int)∧(b:Int)<x.Bs.length:=by omega
 have hrep:(List.replicate x.Bs.length false).length=x.Bs.length:=List.length_replicate ..
 have hg:(decide (0≤(x.Bs.length:Int))&&decide ((x.Bs.length:Int)≤268435456))=true:=by
  rw[tQ (by omega),tQ (by omega)];rfl
 have hset:∀z,Qa ((List.replicate x.Bs.length false).set ((b:Int)).toNat true) z↔z=(b:Int):=fun z=>by
  rw[zIE hb'.1 (by rw[hrep];exact hb'.2)]
  refine or_iff_left ?_
  rintro⟨h0,h1⟩
  rw[List.getElem?_replicate]at h1
  split at h1<;>simp at h1
 obtain⟨met,f1,f2,f3,f4,f5⟩:=zCd n x l hl (by omega) (by omega) (by omega) n true ((List.replicate x.Bs.length false).set ((b:Int)).toNat true) (by simp only[if_true];omega) (by rw[List.length_set,hrep]) (fun h=>by cases h)
 have hm:∀j:Nat,Qa met (j:Int)↔(met[j]? ==some true)=true:=fun j=>by
  unfold Qa
  simp
 have hm2:(fun z:Int=>Qa met z)=fun z:Int=>0≤z∧(met[z.toNat]? ==some true)=true:=by
  funext z
  unfold Qa
  simp
 refine⟨fun j=>met[j]? ==some true,?_,?_,?_,?_⟩
 ·unfold qg
  rw[qe,Z3 n b _ (show x.Bs.length≤1048600 by omega),bQ,tQ hb']
  simp only[nQ,fQ,Int.toNat_natCast]
  rw[hg,zK (by rw[hrep];exact hb)]
  simp only[Int.toNat_natCast]at f1
  simp only[cQ,bQ,f1,J9]
  rw[show QE n n met 0 []= _ from zAH n met (by omega) n 0 [] (by omega) (by omega) (by simp)]
  simp only[bQ,zBF,List.nil_append,Nat.sub_zero,f2]
 ·exact(hm b).1 (f3 _ ((hset _).2 rfl))
 ·intro i j h
  obtain⟨z,hz,lk,hlk,hA,hB,hi,hj⟩:=h
  obtain⟨k,hk,rfl⟩:=List.getElem_of_mem hz
  have:=f5 k _ lk (Nat.zero_le _) (List.getElem?_eq_getElem hk) hlk (by omega) (by omega) (by omega) (by omega)
  rw[hA,hB,hm,hm]at this
  exact this
 ·intro S hS hSb j hj
  have:=f4 (fun z=>S z.toNat) (zPY.2 hS) (fun z hz=>by
   rw[(hset z).1 hz]
   simpa using hSb) (j:Int) ((hm j).2 hj)
  simpa using this
theorem zKa{n:Nat}{x:Net}(hx:Q0 n x)(P:Nat→Bool)(hP:∀k (hk:k<x.Ls.length),qD n x k=some (P k)):∀(m k:Nat) (acc:List Int),k≤x.Ls.length→x.Ls.length<m+k→acc.length≤k→ZJ n m x k acc=some (.inl (acc++((List.range' k (x.Ls.length-k)).filter P).map fun j:Nat=>(j:Int)))
 |0,k,acc,h1,h2,h3=>by omega
 | m + 1,k,acc,h1,h2,h3 => by
  have h9:=hx.2.2.1.2.2.1
  rw[ZJ]
  by_cases hk:k<x.Ls.length
  ·have ih:=fun acc h3=>zKa hx P hP m (k+1) acc (by omega) (by omega) h3
   have hr:List.range' k (x.Ls.length-k)=k::List.range' (k+1) (x.Ls.length-(k+1)):=by
    rw[show x.Ls.length-k=(x.Ls.length-(k+1))+1 by omega,List.range'_succ]
   rw[qU hk,cQ,hP k hk,bQ,vQ k,hr,List.filter_cons]
   cases hp:P k with
   |true=>
    rw[cQ,tQ (by simp;omega),cQ,ih (acc++[(k:Int)]) (by simp;omega)]
    simp
   |false=>
    rw[fQ,ih acc (by omega)]
    simp
  ·obtain rfl:k=x.Ls.length:=by omega
   rw[z6]
   simp
theorem zEb(n:Nat)(x:Net)(b:Nat)(l:List Int)(xs:List Nat)(hu:ZY n x=some l)(hj:qg n x b l=some (xs.map fun j:Nat=>(j:Int)))(hlen:xs.length≤1000)(hn:1048700<n)(hxs:∀j∈xs,j<x.Bs.length)(hne:xs≠ []):∃r,∃hr:r<x.Bs.length,r∈xs∧ZN n x b=some (r:Int)∧qw n x b=some x.Bs[r].Id∧∀j (hj:j<x.Bs.length),j∈xs→x.Bs[r].Id≤x.Bs[j].Id:=by
 have loop:∀(m k:Nat) (y:Int),k≤xs.length→xs.length<m+k→((y= -1∧k=0)∨∃r,∃hr:r<x.Bs.length,y=(r:Int)∧r∈xs∧∀j (hj:j<x.Bs.length) (i:Nat) (hi:i<xs.length),i<k→xs[i]=j→x.Bs[r].Id≤x.Bs[j].Id)→∃y',QG n m (xs.map fun j:Nat=>(j:Int)) x k y=some (.inl y')∧((y'= -1∧xs.length=0)∨∃r,∃hr:r<x.Bs.length,y'=(r:Int)∧r∈xs∧∀j (hj:j<x.Bs.length) (i:Nat) (hi:i<xs.length),xs[i]=j→x.Bs[r].Id≤x.Bs[j].Id):=fun m=>by
  induction m with
  |zero=>intro k y h1 h2;omega
  | succ m ih =>
   intro k y h1 h2 hy
   rw[QG]
   by_cases hk:k<xs.length
   ·have hk':k<(xs.map fun j:Nat=>(j:Int)).length:=by simpa using hk
    have hv:xs[k]<x.Bs.length:=hxs _ (List.getElem_mem hk)
    have hget:(xs.map fun j:Nat=>(j:Int))[k]=(xs[k]:Int):=by simp
    rw[qU hk',cQ,zK hk',bQ,hget,vQ k]
    rcases hy with⟨rfl,rfl⟩|⟨r,hr,rfl,hrm,hmin⟩
    ·rw[tQ (by decide),cQ]
     exact ih 1 _ (by omega) (by omega) (.inr ⟨xs[0],hv,rfl,List.getElem_mem hk,fun j hj i hi hi1 e=>by
      have:i=0:=by omega
      subst this;subst e;exact Int.le_refl _⟩)
    ·rw[dQ (show¬(r:Int)<0 by omega),fQ,zK hv,bQ,zK hr,bQ]
     by_cases hlt:x.Bs[xs[k]].Id<x.Bs[r].Id
     ·rw[tQ hlt,cQ]
      exact ih (k+1) _ (by omega) (by omega) (.inr ⟨xs[k],hv,rfl,List.getElem_mem hk,fun j hj i hi hi1 e=>by
       by_cases hik:i=k
       ·subst hik;subst e;exact Int.le_refl _
       ·have:=hmin j hj i hi (by omega) e;omega⟩)
     ·rw[dQ hlt,fQ]
      exact ih (k+1) _ (by omega) (by omega) (.inr ⟨r,hr,rfl,hrm,fun j hj i hi hi1 e=>by
       by_cases hik:i=k
       ·subst hik;subst e;omega
       ·exact hmin j hj i hi (by omega) e⟩)
   ·have he:k=(xs.map fun j:Nat=>(j:Int)).length:=by simp;omega
    rw[he,z6]
    refine⟨y,rfl,?_⟩
    rcases hy with⟨rfl,rfl⟩|⟨r,hr,rfl,hrm,hmin⟩
    ·exact .inl ⟨rfl,by omega⟩
    ·exact .inr ⟨r,hr,rfl,hrm,fun j hj i hi e=>hmin j hj i hi (by omega) e⟩
 obtain⟨y',e,h⟩:=loop n 0 (-1) (by omega) (by omega) (.inl ⟨rfl,rfl⟩)
 rcases h with⟨_,h0⟩|⟨r,hr,rfl,hrm,hmin⟩
 ·exact absurd (List.eq_nil_of_length_eq_zero h0) hne
 ·have hroot:ZN n x b=some (r:Int):=by
   unfold ZN
   rw[hu,bQ,hj,bQ,show QG n n (xs.map fun j:Nat=>(j:Int)) x 0 (-1)= _ from e]
   rfl
  refine⟨r,hr,hrm,hroot,?_,fun j hj hjm=>?_⟩
  ·unfold qw
   rw[hroot,bQ,dQ (by omega),fQ,zK hr]
   rfl
  ·obtain⟨i,hi,e⟩:=List.getElem_of_mem hjm
   exact hmin j hj i hi e
theorem zNU{n:Nat}{x:Net}(hx:Q0 n x)(i:Nat)(v:zA)(wv:v.wf)(sv:v.sz≤1100):(⟨x.Bs.set i v,x.Ls,x.Said⟩:Net).wf∧(⟨x.Bs.set i v,x.Ls,x.Said⟩:Net).sz≤10000:=by
 have h6:=hx.2.2.1.2.1.2
 have h9:=hx.2.2.1.2.2.1
 have h40:=hx.2.2.1.2.2.2.1
 have hl:(x.Bs.set i v).length=x.Bs.length:=List.length_set
 refine⟨⟨⟨by simp only[hl];exact hx.1.1.1,fun b hb=>?_⟩,hx.1.2⟩,?_⟩
 ·rcases List.mem_or_eq_of_mem_set hb with h|h
  ·exact hx.1.1.2 b h
  ·rw[h];exact wv
 ·have h1:=zMf (sz:=zA.sz) (c:=1100) (x.Bs.set i v) fun b hb=>by
   rcases List.mem_or_eq_of_mem_set hb with h|h
   ·obtain⟨j,hj,rfl⟩:=List.getElem_of_mem h
    have:=(hx.br hj).2.2;omega
   ·rw[h];exact sv
  show((x.Bs.set i v).length+Ju zA.sz (x.Bs.set i v))+x.Ls.length+x.Said.length≤10000
  rw[hl]at h1⊢
  have:1100*x.Bs.length≤6600:=by omega
  omega
theorem zKv(c:Src)(hc:c.ok)(z:Int)(z0:0≤z)(z1:z≤100):∃(y:Net) (c':Src),zC7 1048800 c z=some (y,c')∧y.wf∧y.sz≤10000∧c'.ok:=by
 have hm:maxLen=9223372036854775807:=by decide
 obtain⟨y,c1,e1,n1,g1⟩:=zF1 c hc z z0 z1
 have h400:=n1.sz
 have h1:=n1.2.2.1.2.1
 have h9:=n1.2.2.1.2.2.1
 have h40:=n1.2.2.1.2.2.2.1
 have hs:(y.Bs.length+Ju zA.sz y.Bs)+y.Ls.length+y.Said.length=y.sz:=rfl
 obtain⟨v2,c2,e2,a2,b2,g2⟩:=zO 1048800 c1 (y.Bs.length:Int) g1
 have b2:=b2 (by omega)
 obtain⟨v2,rfl⟩:=Int.eq_ofNat_of_zero_le a2
 have b2:v2<y.Bs.length:=by omega
 obtain⟨v3,c3,e3,a3,b3,g3⟩:=zO 1048800 c2 20 g2
 obtain⟨w,c4,e4,w4,s4,g4⟩:=zKu c3 g3
 obtain⟨v9,c9,e9,a9,b9,g9⟩:=zO 1048800 c3 3 g3
 obtain⟨v10,c10,e10,a10,b10,g10⟩:=zO 1048800 c9 3 g9
 obtain⟨v11,c11,e11,a11,b11,g11⟩:=zO 1048800 c10 7 g10
 obtain⟨v12,c12,e12,a12,b12,g12⟩:=zO 1048800 c11 7 g11
 have b9:=b9 (by decide)
 have b10:=b10 (by decide)
 have b11:=b11 (by decide)
 have b12:=b12 (by decide)
 obtain⟨v6,c6,e6,a6,g6⟩:=zo 1048800 c3 [(-1),0,8,9] g3 (by decide)
 simp only[List.mem_cons,List.not_mem_nil,or_false]at a6
 obtain⟨v7,c7,e7,s7,g7⟩:=zFO 1048800 c6 g6
 obtain⟨p1,p2,p3,p4,p5⟩:=s7
 obtain⟨ok,wb,sb⟩:=n1.br b2
 have hb:y.Bs[v2].Name.size+y.Bs[v2].Ps.length+y.Bs[v2].F.length+y.Bs[v2].V.sz=y.Bs[v2].sz:=rfl
 have h0:=(qF _ _ (by omega) ok).1
 have i4:idx y.Bs (v2:Int)=some y.Bs[v2]:=zK b2
 have i5:idx y.Bs[v2].Ps (0:Int)=some y.Bs[v2].Ps[0]:=zK (k:=0) h0
 unfold zC7
 simp only[e1,bQ]
 rw[show((y.Bs.length:Int)==0)=false from by rw[beq_eq_false_iff_ne];omega,fQ]
 simp only[e2,e3,e4,e9,e10,e11,e12,e6,e7,i4,i5,bQ]
 cases(v3==0)with
 |true=>
  obtain⟨q1,q2⟩:=zNU n1 v2 w w4 s4
  exact⟨_,_,rfl,q1,q2,g4⟩
 |false=>
 cases(v3==1)with
 | true =>
  rw[fQ,cQ,tQ (by simp;omega),cQ,wQ (z:=v11-1)]
  refine⟨_,_,rfl,⟨n1.1.1,⟨by simp;omega,fun l hl=>?_⟩,n1.1.2.2⟩,?_,g12⟩
  ·rcases List.mem_append.1 hl with h|h
   ·exact n1.1.2.1.2 l h
   ·rw[List.mem_singleton.1 h]
    exact⟨iQ (z:=v9),iQ (z:=v10),iQ (z:=v11-1),iQ (z:=v12),trivial⟩
  ·simp only[Net.sz,List.length_append,List.length_singleton];omega
 |false=>
 cases(v3==2)with
 | true =>
  rw[fQ,fQ,cQ,tQ (by simp;omega),cQ]
  refine⟨_,_,rfl,⟨n1.1.1,n1.1.2.1,⟨by simp;omega,fun l hl=>?_⟩,trivial⟩,?_,g7⟩
  ·rcases List.mem_append.1 hl with h|h
   ·exact n1.1.2.2.1.2 l h
   ·rw[List.mem_singleton.1 h]
    exact⟨iQ (z:=v6),iQ (z:=v7.Root),iQ (z:=v7.Co),iQ (z:=v7.Hops),iQ (z:=v7.Bridge),iQ (z:=v7.Port),trivial⟩
  ·simp only[Net.sz,List.length_append,List.length_singleton];omega
 |false=>
 cases(v3==3)with
 | true =>
  have hw:=wb.2.2.1.2 _ (List.getElem_mem h0)
  obtain⟨i1,i2,i3,i6⟩:=wb
  obtain⟨q1,q2⟩:=zNU n1 v2 ⟨y.Bs[v2].Id,y.Bs[v2].Name,y.Bs[v2].Ps.set (((0:Int)).toNat) ⟨!y.Bs[v2].Ps[0].Up,y.Bs[v2].Ps[0].Co,y.Bs[v2].Ps[0].Has,y.Bs[v2].Ps[0].Hd⟩,y.Bs[v2].F,y.Bs[v2].V,y.Bs[v2].Tk,y.Bs[v2].Pa,y.Bs[v2].Wo,y.Bs[v2].Dr,y.Bs[v2].Ve⟩ ⟨i1,i2,⟨by simp only[List.length_set];exact i3.1,fun p hp=>by
   rcases List.mem_or_eq_of_mem_set hp with h|h
   ·exact i3.2 p h
   ·rw[h];exact hw⟩,i6⟩ (by simp only[zA.sz,List.length_set];omega)
  exact⟨_,_,rfl,q1,q2,g3⟩
 |false=>exact⟨_,_,rfl,n1.1,by omega,g3⟩
theorem zK0(x0:List Int)(h:x0.length≤1048576)(m:Int)(m0:3≤m)(m1:m≤100):∃s,zC9 1048800 x0 m=some s∧0≤s∧s≤100:=by
 have t0:Int.tdiv (x0.length:Int) 12=((x0.length / 12:Nat):Int):=by rw[Int.tdiv_eq_ediv_of_nonneg (by omega)];omega
 have t1:wI ((x0.length / 12:Nat):Int)=((x0.length / 12:Nat):Int):=wQ
 have t2:wI (3+((x0.length / 12:Nat):Int))=((3+x0.length / 12:Nat):Int):=by rw[wQ];omega
 unfold zC9
 rw[t0,t1,t2,show decide ((12:Int)≠0)=true from by decide,cQ]
 by_cases hs:((3+x0.length / 12:Nat):Int)>m
 ·rw[tQ hs];exact⟨m,rfl,by omega,by omega⟩
 ·rw[dQ hs];exact⟨_,rfl,by omega,by omega⟩
theorem zMT(N root:Nat)(hr:root<N)(W:Nat→Nat→Int→Prop)(hW:∀a b c,W a b c→a<N∧b<N∧1≤c)(D:Nat→Nat→Int)(h0:D 0 root=0)
  (hm:∀t i,t<N→i<N→0≤D t i→0≤D (t+1) i∧D (t+1) i≤D t i) (hs:∀t i,t≤N→i<N→0≤D t i→zBs W root i (D t i)) (he:∀t a b c,t<N→W a b c→0≤D t a→0≤D (t+1) b∧D (t+1) b≤D t a+c):
  ∀i d,zBs W root i d→zBs W root i (D N i)∧D N i≤d:=by
 have least:∀i,∃k:Int,(∃d,zBs W root i d)→zBs W root i k∧∀d,zBs W root i d→k≤d:=fun i=>by
  by_cases h:∃d,zBs W root i d
  ·obtain⟨d0,hd0⟩:=h
   obtain⟨k,k1,k2⟩:=zQw (fun k:Nat=>zBs W root i k) ⟨d0.toNat,by rw[Int.toNat_of_nonneg (hd0.nnT hr hW).1];exact hd0⟩
   refine⟨k,fun _=>⟨k1,fun d hd=>?_⟩⟩
   have nn:=(hd.nnT hr hW).1
   have:=k2 d.toNat (by rw[Int.toNat_of_nonneg nn];exact hd)
   omega
  ·exact⟨0,fun h'=>absurd h' h⟩
 obtain⟨K,hK⟩:=Classical.skolem.1 least
 have dec:∀j i,∃b:Bool,b=true↔((∃d,zBs W root j d)∧K j<K i):=fun j i=>by
  by_cases h:(∃d,zBs W root j d)∧K j<K i
  ·exact⟨true,by simp[h]⟩
  ·exact⟨false,by simp only[Bool.false_eq_true,false_iff];exact h⟩
 obtain⟨R,hR⟩:∃R:Nat→Nat→Bool,∀j i,R j i=true↔((∃d,zBs W root j d)∧K j<K i):=⟨fun j i=>(dec j i).choose,fun j i=>(dec j i).choose_spec⟩
 have rk:∀i a,(∃d,zBs W root a d)→K a<K i→a<N→((List.range N).filter (fun k=>R k a)).length<((List.range N).filter (fun k=>R k i)).length:=fun i a h1 h2 h3=>by
  refine(filter_lt _ _ (fun k hk=>?_) (List.range N)).2 ⟨a,List.mem_range.2 h3,(hR a i).2 ⟨h1,h2⟩,?_⟩
  ·have:=(hR k a).1 hk
   exact(hR k i).2 ⟨this.1,by omega⟩
  ·exact Bool.eq_false_iff.2 fun hc=>by have:=((hR a a).1 hc).2;omega
 have rkN:∀i,i<N→((List.range N).filter (fun k=>R k i)).length<N:=fun i hi=>by
  have:=(filter_lt (fun k=>R k i) (fun _=>true) (fun _ _=>rfl) (List.range N)).2 ⟨i,List.mem_range.2 hi,rfl,Bool.eq_false_iff.2 fun hc=>by have:=((hR i i).1 hc).2;omega⟩
  rw[List.filter_eq_self.2 (fun _ _=>rfl),List.length_range]at this
  exact this
 have main:∀m i,(∃d,zBs W root i d)→((List.range N).filter (fun k=>R k i)).length=m→∀t,m≤t→t≤N→D t i=K i:=fun m=>by
  induction m using Nat.strongRecOn with
  | ind m ih =>
   intro i hi hm' t ht htN
   obtain⟨k1,k2⟩:=hK i hi
   have nn:=k1.nnT hr hW
   by_cases hir:i=root
   ·subst hir
    have z:∀t,t≤N→0≤D t i∧D t i≤0:=fun t=>by
     induction t with
     |zero=>omega
     |succ t ih=>intro ht;have ih:=ih (by omega);have:=hm t i (by omega) nn.2 ih.1;omega
    have:=z t htN
    have:=k2 _ (zBs.start (W:=W) (root:=i))
    omega
   ·obtain⟨a,c,d,ha,hw,hk⟩:∃a c d,zBs W root a d∧W a i c∧K i=d+c:=by
     generalize K i=k at k1
     cases k1 with
     |start=>exact absurd rfl hir
     |step a _ d c h w=>exact⟨a,c,d,h,w,rfl⟩
    have hwc:=hW _ _ _ hw
    obtain⟨ka1,ka2⟩:=hK a ⟨d,ha⟩
    have hle:=ka2 d ha
    have hrk:=rk i a ⟨d,ha⟩ (by omega) hwc.1
    obtain⟨s,rfl⟩:∃s,t=s+1:=⟨t-1,by omega⟩
    have hDa:=ih _ (by omega) a ⟨d,ha⟩ rfl s (by omega) (by omega)
    have nna:=(ka1.nnT hr hW).1
    have h1:=he s a i c (by omega) hw (by omega)
    have h2:=k2 _ (hs (s+1) i htN nn.2 h1.1)
    omega
 intro i d hd
 obtain⟨k1,k2⟩:=hK i ⟨d,hd⟩
 have nn:=k1.nnT hr hW
 have hN:=rkN i nn.2
 have:=main _ i ⟨d,hd⟩ rfl N (by omega) (Nat.le_refl _)
 rw[this]
 exact⟨k1,k2 d hd⟩
def gd(d:List Int)(i:Nat):Int:=d.getD i (-1)
theorem zLB{d:List Int}{b:Nat}(h:b<d.length)(v:Int)(i:Nat):gd (d.set b v) i=if i=b then v else gd d i:=by
 unfold gd
 rw[List.getD_eq_getElem?_getD,List.getD_eq_getElem?_getD]
 by_cases hi:i=b
 ·subst hi
  rw[if_pos rfl,List.getElem?_set_self h]
  rfl
 ·rw[if_neg hi,List.getElem?_set_ne (by omega)]
theorem zEz{d:List Int}{a:Nat}(h:a<d.length):idx d (a:Int)=some (gd d a):=by
 rw[zK h]
 unfold gd
 rw[List.getD_eq_getElem?_getD,List.getElem?_eq_getElem h]
 rfl
theorem zNb(n:Nat)(x:Net)(d:List Int)(a b q:Nat)(c B:Int)(ha:a<d.length)(hb:b<d.length)(hbx:b<x.Bs.length)(hq:q<x.Bs[b].Ps.length)(hc:x.Bs[b].Ps[q].Co=c)(hc0:1≤c)(hc1:c≤1000)(hB:B≤1000000000)(hd:∀i,gd d i≤B):
  ∃d':List Int,JN n a b q d x=some d'∧d'.length=d.length∧(∀i,gd d' i≤B+1000∧(0≤gd d i→0≤gd d' i∧gd d' i≤gd d i)∧(0≤gd d' i→gd d' i=gd d i∨i=b∧0≤gd d a∧gd d' i=gd d a+c))∧(0≤gd d a→0≤gd d' b∧gd d' b≤gd d a+c):=by
 unfold JN
 rw[zEz ha,bQ]
 have hda:=hd a
 have hdb:=hd b
 by_cases h1:gd d a<0
 ·rw[tQ h1,cQ]
  exact⟨d,rfl,rfl,fun i=>⟨by have:=hd i;omega,fun h=>⟨h,Int.le_refl _⟩,fun h=>.inl rfl⟩,fun h=>by omega⟩
 ·rw[dQ h1,fQ,zK hbx,bQ,zK hq,bQ,zEz hb,bQ,hc,wQ,Int.toNat_natCast]
  have upd:gd d b<0∨gd d a+c<gd d b→∃d':List Int,some (d.set b (gd d a+c))=some d'∧d'.length=d.length∧(∀i,gd d' i≤B+1000∧(0≤gd d i→0≤gd d' i∧gd d' i≤gd d i)∧(0≤gd d' i→gd d' i=gd d i∨i=b∧0≤gd d a∧gd d' i=gd d a+c))∧(0≤gd d a→0≤gd d' b∧gd d' b≤gd d a+c):=fun h=>by
   refine⟨_,rfl,List.length_set,fun i=>?_,fun _=>?_⟩
   ·rw[zLB hb]
    by_cases hi:i=b
    ·subst hi
     rw[if_pos rfl]
     exact⟨by omega,fun h0=>⟨by omega,by omega⟩,fun _=>.inr ⟨rfl,by omega,rfl⟩⟩
    ·rw[if_neg hi]
     exact⟨by have:=hd i;omega,fun h0=>⟨h0,Int.le_refl _⟩,fun _=>.inl rfl⟩
   ·rw[zLB hb,if_pos rfl];exact⟨by omega,by omega⟩
  by_cases h2:gd d b<0
  ·rw[tQ h2,cQ];exact upd (.inl h2)
  ·rw[dQ h2,fQ]
   by_cases h3:gd d a+c<gd d b
   ·rw[tQ h3,cQ];exact upd (.inr h3)
   ·rw[dQ h3,fQ]
    exact⟨d,rfl,rfl,fun i=>⟨by have:=hd i;omega,fun h=>⟨h,Int.le_refl _⟩,fun h=>.inl rfl⟩,fun h=>⟨by omega,by omega⟩⟩
def zG2(n:Nat)(x:Net)(a b:Nat)(c:Int):Prop:=∃k p q,EdN n x k b q c a p
theorem zBg{n:Nat}{x:Net}(hx:Q0 n x){a b:Nat}{c:Int}(h:zG2 n x a b c):a<x.Bs.length∧b<x.Bs.length∧1≤c∧c≤1000:=by
 obtain⟨k,p,q,hk,hu,he,hb,ha,hcost⟩:=h
 refine⟨ha,hb,?_⟩
 obtain⟨pt,h1,h2⟩:=Option.map_eq_some_iff.1 hcost
 obtain⟨q',rfl,hq,e⟩:=zPo hb h1
 have s:=(hx.br hb).2.2
 have qs:x.Bs[b].Name.size+x.Bs[b].Ps.length+x.Bs[b].F.length+x.Bs[b].V.sz=x.Bs[b].sz:=rfl
 obtain⟨p1,p2,p3,p4,p5,p6,p7,p8,p9,p10,p11,p12,p13⟩:=qF n _ (by omega) (hx.br hb).1
 have:=(JO n _ (p13 q' hq)).1
 rw[e,h2]at this
 exact this
def zRL(n:Nat)(x:Net)(root:Nat)(B0:Int)(d0:List Int)(zs:List Nat)(j:Nat)(d:List Int):Prop:=
 d.length=x.Bs.length∧(∀i,gd d i≤B0+2000*j)∧(∀i,0≤gd d0 i→0≤gd d i∧gd d i≤gd d0 i)∧(∀i,0≤gd d i→zBs (zG2 n x) root i (gd d i))∧
 ∀t k,t<j→zs[t]? =some k→∀a b c p q,EdN n x k b q c a p→0≤gd d0 a→0≤gd d b∧gd d b≤gd d0 a+c
theorem zSs{n:Nat}{x:Net}(hx:Q0 n x)(root:Nat)(zs:List Nat)(hz:∀k∈zs,k<x.Ls.length∧qD n x k=some true)(hlen:zs.length≤100)(B0:Int)(hB0:0≤B0)(hB1:B0≤100000000)(d0:List Int):
  ∀(m j:Nat) (d:List Int),j≤zs.length→zs.length<m+j→zRL n x root B0 d0 zs j d→∃d':List Int,qz n m (zs.map fun k:Nat=>(k:Int)) x j d=some (.inl d')∧zRL n x root B0 d0 zs zs.length d':=by
 intro m
 induction m with
 |zero=>intro j d h1 h2;omega
 | succ m ih =>
  intro j d h1 h2 hI
  rw[qz]
  by_cases hj:j<zs.length
  ·have hjm:j<(zs.map fun k:Nat=>(k:Int)).length:=by simpa using hj
   obtain⟨hk,hu⟩:=hz zs[j] (List.getElem_mem hj)
   obtain⟨a,p,b,q,ha,hb,eA,eP,eB,eQ,hab,hp,hq,hp6,hq6⟩:=hx.ends hk
   have hk':idx x.Ls ((zs[j]:Nat):Int)=some x.Ls[zs[j]]:=zK hk
   rw[tQ (show(j:Int)<((zs.map fun k:Nat=>(k:Int)).length:Int) by omega),cQ,zK hjm,bQ,List.getElem_map,hk',bQ,eA,eB,eQ,eP]
   obtain⟨hl,hbd,hmon,hway,hdone⟩:=hI
   have e1:EdN n x zs[j] b q x.Bs[b].Ps[q].Co a p:=⟨hk,hu,.inr ⟨eB,eQ,eA,eP⟩,hb,ha,by unfold ZQ;rw[zK hb,bQ,zK hq];rfl⟩
   have e2:EdN n x zs[j] a p x.Bs[a].Ps[p].Co b q:=⟨hk,hu,.inl ⟨eA,eP,eB,eQ⟩,ha,hb,by unfold ZQ;rw[zK ha,bQ,zK hp];rfl⟩
   obtain⟨_,_,c1,c1'⟩:=zBg hx ⟨_,_,_,e1⟩
   obtain⟨_,_,c2,c2'⟩:=zBg hx ⟨_,_,_,e2⟩
   obtain⟨d1,r1,l1,f1,g1⟩:=zNb n x d a b q _ (B0+2000*j) (by omega) (by omega) hb hq rfl c1 c1' (by omega) hbd
   obtain⟨d2,r2,l2,f2,g2⟩:=zNb n x d1 b a p _ (B0+2000*j+1000) (by omega) (by omega) ha hp rfl c2 c2' (by omega) fun i=>(f1 i).1
   rw[r1,bQ,r2,bQ,vQ j]
   have mon:∀i,0≤gd d i→0≤gd d2 i∧gd d2 i≤gd d i:=fun i h0=>by
    have h1:=(f1 i).2.1 h0
    have h2:=(f2 i).2.1 h1.1
    omega
   have way1:∀i,0≤gd d1 i→zBs (zG2 n x) root i (gd d1 i):=fun i h0=>by
    rcases(f1 i).2.2 h0 with e|⟨rfl,h1,e⟩
    ·rw[e];exact hway i (by omega)
    ·rw[e];exact .step a i _ _ (hway a h1) ⟨_,_,_,e1⟩
   refine ih (j+1) d2 (by omega) (by omega) ⟨by omega,fun i=>?_,fun i h0=>?_,fun i h0=>?_,fun t k ht hkz a' b' c' p' q' he h0=>?_⟩
   ·have:=(f2 i).1;omega
   ·have h1:=hmon i h0
    have h2:=mon i h1.1
    omega
   ·rcases(f2 i).2.2 h0 with e|⟨rfl,h1,e⟩
    ·rw[e];exact way1 i (by omega)
    ·rw[e];exact .step b i _ _ (way1 b h1) ⟨_,_,_,e2⟩
   ·by_cases htj:t<j
    ·have h1:=hdone t k htj hkz a' b' c' p' q' he h0
     have h2:=mon b' h1.1
     omega
    ·have htj:t=j:=by omega
     subst htj
     rw[List.getElem?_eq_getElem hj]at hkz
     cases hkz
     have hm:=hmon a' h0
     obtain⟨_,_,he,hb',ha',hcost⟩:=he
     have port:∀(i:Nat) (hi:i<x.Bs.length) (q:Nat) (hq:q<x.Bs[i].Ps.length) (c:Int),(ZQ x i q).map (·.Co)=some c→x.Bs[i].Ps[q].Co=c:=fun i hi q hq c h=>by
      unfold ZQ at h
      rw[zK hi,bQ,zK hq]at h
      exact Option.some.inj h
     rcases he with⟨h1,h2,h3,h4⟩|⟨h1,h2,h3,h4⟩
     ·have q1:a=b':=by omega
      have q2:(p:Int)=q':=by omega
      have q3:b=a':=by omega
      subst q1;subst q2;subst q3
      have cc:=port a ha p hp c' hcost
      have u1:=(f1 b).2.1 hm.1
      have u2:=g2 u1.1
      rw[cc]at u2
      omega
     ·have q1:b=b':=by omega
      have q2:(q:Int)=q':=by omega
      have q3:a=a':=by omega
      subst q1;subst q2;subst q3
      have cc:=port b hb q hq c' hcost
      have u1:=g1 hm.1
      rw[cc]at u1
      have u2:=(f2 b).2.1 u1.1
      omega
  ·have:j=zs.length:=by omega
   subst this
   rw[dQ (show¬(zs.length:Int)<((zs.map fun k:Nat=>(k:Int)).length:Int) by simp),fQ]
   exact⟨d,rfl,hI⟩
theorem zOo{n:Nat}(hn:1048700<n){x:Net}(hx:Q0 n x)(root:Nat)(hr:root<x.Bs.length)(zs:List Nat)(hz:∀k∈zs,k<x.Ls.length∧qD n x k=some true)(hall:∀k (hk:k<x.Ls.length),qD n x k=some true→k∈zs)(hlen:zs.length≤9)
  (hu:ZY n x=some (zs.map fun k:Nat=>(k:Int))) (d0:List Int) (hl:d0.length=x.Bs.length) (h0:∀i,gd d0 i=if i=root then 0 else-1):
  ∃d':List Int,ZW n n x 0 d0=some (.inl d')∧d'.length=x.Bs.length∧(∀i,gd d' i≤1000000)∧∀i d,zBs (zG2 n x) root i d→zBs (zG2 n x) root i (gd d' i)∧gd d' i≤d:=by
 have h6:=hx.2.2.1.2.1.2
 let F:List Int→List Int:=fun d=>match qz n n (zs.map fun k:Nat=>(k:Int)) x 0 d with
  |some (.inl d')=>d'
  |_=>d
 let f:Nat→List Int:=fun t=>Nat.rec d0 (fun _ d=>F d) t
 have step:∀(t:Nat) (d:List Int),t≤1000→d.length=x.Bs.length→(∀i,gd d i≤20000*t)→(∀i,0≤gd d i→zBs (zG2 n x) root i (gd d i))→
   qz n n (zs.map fun k:Nat=>(k:Int)) x 0 d=some (.inl (F d))∧zRL n x root (20000*t) d zs zs.length (F d):=fun t d ht h1 h2 h3=>by
  obtain⟨d',e,I⟩:=zSs hx root zs hz (by omega) (20000*t) (by omega) (by omega) d n 0 d (Nat.zero_le _) (by omega) ⟨h1,fun i=>by have:=h2 i;omega,fun i h=>⟨h,Int.le_refl _⟩,h3,fun t k ht=>absurd ht (Nat.not_lt_zero t)⟩
  have e:qz n n (zs.map fun k:Nat=>(k:Int)) x 0 d=some (.inl d'):=e
  have hF:F d=d':=by show(match qz n n (zs.map fun k:Nat=>(k:Int)) x 0 d with|some (.inl d')=>d'|_=>d)=d';rw[e]
  rw[hF]
  exact⟨e,I⟩
 have inv:∀t,t≤1000→(f t).length=x.Bs.length∧(∀i,gd (f t) i≤20000*t)∧∀i,0≤gd (f t) i→zBs (zG2 n x) root i (gd (f t) i):=fun t=>by
  induction t with
  | zero =>
   intro _
   refine⟨hl,fun i=>?_,fun i h=>?_⟩
   ·show gd d0 i≤_;rw[h0];split<;>omega
   ·have h:0≤gd d0 i:=h
    show zBs _ root i (gd d0 i)
    rw[h0]at h⊢
    by_cases hi:i=root
    ·subst hi;rw[if_pos rfl];exact .start
    ·rw[if_neg hi]at h;omega
  |succ t ih=>
   intro ht
   obtain⟨i1,i2,i3⟩:=ih (by omega)
   obtain⟨_,p1,p2,p3,p4,_⟩:=step t (f t) (by omega) i1 i2 i3
   exact⟨p1,fun i=>by have:=p2 i;show gd (F (f t)) i≤_;omega,p4⟩
 have pass:∀t,t≤1000→qz n n (zs.map fun k:Nat=>(k:Int)) x 0 (f t)=some (.inl (f (t+1)))∧zRL n x root (20000*t) (f t) zs zs.length (f (t+1)):=fun t ht=>by
  obtain⟨i1,i2,i3⟩:=inv t ht
  exact step t (f t) ht i1 i2 i3
 have loop:∀m k:Nat,k≤x.Bs.length→x.Bs.length<m+k→ZW n m x k (f k)=some (.inl (f x.Bs.length)):=fun m=>by
  induction m with
  |zero=>intro k h1 h2;omega
  | succ m ih =>
   intro k h1 h2
   rw[ZW]
   by_cases hk:k<x.Bs.length
   ·rw[tQ (show(k:Int)<(x.Bs.length:Int) by omega),cQ,hu,bQ,(pass k (by omega)).1]
    simp only[bQ,Jz]
    rw[vQ k]
    exact ih (k+1) (by omega) (by omega)
   ·have:k=x.Bs.length:=by omega
    subst this
    rw[dQ (show¬(x.Bs.length:Int)<(x.Bs.length:Int) by omega),fQ]
 refine⟨f x.Bs.length,loop n 0 (Nat.zero_le _) (by omega),(inv _ (by omega)).1,fun i=>by have:=(inv x.Bs.length (by omega)).2.1 i;omega,?_⟩
 refine zMT x.Bs.length root hr (zG2 n x) (fun a b c h=>by have:=zBg hx h;exact⟨this.1,this.2.1,this.2.2.1⟩) (fun t i=>gd (f t) i) ?_ ?_ ?_ ?_
 ·show gd d0 root=0;rw[h0,if_pos rfl]
 ·intro t i ht hi h;exact(pass t (by omega)).2.2.2.1 i h
 ·intro t i ht hi h;exact(inv t (by omega)).2.2 i h
 ·intro t a b c ht hw h
  obtain⟨k,p,q,he⟩:=hw
  obtain⟨j,hj,e⟩:=List.getElem_of_mem (hall k he.1 he.2.1)
  exact(pass t (by omega)).2.2.2.2.2 j k hj (by rw[List.getElem?_eq_getElem hj,e]) a b c p q he h
theorem zQo(n:Nat)(x:Net)(hN:x.Bs.length≤1000)(hn:1048700<n):∃d:List Int,QW n n x 0 (List.replicate ((x.Bs.length:Int)).toNat (0:Int))=some (.inl d)∧d.length=x.Bs.length∧∀i,gd d i= -1:=by
 have hrl:(List.replicate ((x.Bs.length:Int)).toNat (0:Int)).length=x.Bs.length:=by simp
 have loop:∀(m k:Nat) (d:List Int),k≤x.Bs.length→x.Bs.length<m+k→d.length=x.Bs.length→(∀i,i<k→gd d i= -1)→∃d':List Int,QW n m x k d=some (.inl d')∧d'.length=x.Bs.length∧∀i,i<x.Bs.length→gd d' i= -1:=fun m=>by
  induction m with
  |zero=>intro k d h1 h2;omega
  | succ m ih =>
   intro k d h1 h2 hd hg
   rw[QW,hrl]
   by_cases hk:k<x.Bs.length
   ·rw[tQ (show(k:Int)<(x.Bs.length:Int) by omega),cQ,zEz (by omega),bQ,vQ k,Int.toNat_natCast]
    refine ih (k+1) _ (by omega) (by omega) (by rw[List.length_set,hd]) fun i hi=>?_
    rw[zLB (by omega)]
    by_cases h:i=k
    ·rw[if_pos h]
    ·rw[if_neg h];exact hg i (by omega)
   ·have:k=x.Bs.length:=by omega
    subst this
    rw[dQ (show¬(x.Bs.length:Int)<(x.Bs.length:Int) by omega),fQ]
    exact⟨d,rfl,hd,hg⟩
 obtain⟨d,e,l,g⟩:=loop n 0 _ (Nat.zero_le _) (by omega) hrl (fun i hi=>absurd hi (Nat.not_lt_zero i))
 refine⟨d,e,l,fun i=>?_⟩
 by_cases hi:i<x.Bs.length
 ·exact g i hi
 ·unfold gd
  rw[List.getD_eq_getElem?_getD,List.getElem?_eq_none (by omega)]
  rfl
theorem zRd{n:Nat}(hn:1048700<n){x:Net}(hx:Q0 n x)(root:Nat)(hr:root<x.Bs.length)(zs:List Nat)(hz:∀k∈zs,k<x.Ls.length∧qD n x k=some true)(hall:∀k (hk:k<x.Ls.length),qD n x k=some true→k∈zs)(hlen:zs.length≤9)
  (hu:ZY n x=some (zs.map fun k:Nat=>(k:Int))):∃K:Nat→Int,(∀i,K i≤1000000)∧(∀i d,zBs (zG2 n x) root i d→zBs (zG2 n x) root i (K i)∧K i≤d)∧∀b:Nat,b<x.Bs.length→ZN n x b=some (root:Int)→ZP n x b=some (K b):=by
 have h6:=hx.2.2.1.2.1.2
 obtain⟨d,e,l,g⟩:=zQo n x (by omega) hn
 obtain⟨d',e',l',b',g'⟩:=zOo hn hx root hr zs hz hall hlen hu (d.set root 0) (by rw[List.length_set,l]) (fun i=>by rw[zLB (by omega)];split<;>first|rfl|exact g i)
 refine⟨fun i=>gd d' i,b',g',fun b hb hroot=>?_⟩
 unfold ZP
 rw[hroot,bQ,dQ (show¬(root:Int)<0 by omega),fQ,tQ (show(0:Int)≤(x.Bs.length:Int) by omega),tQ (show(x.Bs.length:Int)≤268435456 by omega),Bool.and_true,cQ,e]
 simp only[bQ,Jx]
 rw[zEz (by omega),bQ,Int.toNat_natCast,e']
 simp only[bQ,Jy]
 rw[zEz (by omega),bQ]
theorem zR0{n:Nat}(hn:1048700<n){x:Net}(hx:Q0 n x):∃(R:Nat→Nat) (K:Nat→Nat→Int),(∀r i,K r i≤1000000)∧(∀b (hb:b<x.Bs.length),∃hr:R b<x.Bs.length,qw n x b=some x.Bs[R b].Id∧x.Bs[R b].Id≤x.Bs[b].Id∧ZP n x b=some (K (R b) b)∧(∃d,zBs (zG2 n x) (R b) b d)∧∀i d,zBs (zG2 n x) (R b) i d→zBs (zG2 n x) (R b) i (K (R b) i)∧K (R b) i≤d)∧
  ∀k i p w j q,EdN n x k i p w j q→R j=R i:=by
 have h6:=hx.2.2.1.2.1.2
 have h9:=hx.2.2.1.2.2.1
 have upE:∀k,∃b:Bool,∀hk:k<x.Ls.length,qD n x k=some b:=fun k=>by
  by_cases hk:k<x.Ls.length
  ·obtain⟨p0,q0,_,_,_,_,u2,_⟩:=hx.linkV hk
   exact⟨p0.Up,fun _=>u2⟩
  ·exact⟨false,fun h=>absurd h hk⟩
 obtain⟨U,hU⟩:=Classical.skolem.1 upE
 generalize hzs:(List.range' 0 x.Ls.length).filter U=zs
 have hu:ZY n x=some (zs.map fun k:Nat=>(k:Int)):=by
  unfold ZY
  rw[show ZJ n n x 0 []= _ from zKa hx U (fun k hk=>hU k hk) n 0 [] (Nat.zero_le _) (by omega) (Nat.le_refl _)]
  simp only[bQ,zAb,List.nil_append,Nat.sub_zero,hzs]
 have hz:∀k∈zs,k<x.Ls.length∧qD n x k=some true:=fun k hk=>by
  rw[←hzs,List.mem_filter,List.mem_range']at hk
  obtain⟨⟨i,hi,e⟩,h2⟩:=hk
  have hk':k<x.Ls.length:=by omega
  exact⟨hk',by rw[hU k hk',h2]⟩
 have hall:∀k (hk:k<x.Ls.length),qD n x k=some true→k∈zs:=fun k hk h=>by
  rw[←hzs,List.mem_filter,List.mem_range']
  refine⟨⟨k,hk,by omega⟩,?_⟩
  rw[hU k hk]at h
  exact Option.some.inj h
 have hzl:zs.length≤9:=by
  have:=List.length_filter_le U (List.range' 0 x.Ls.length)
  rw[hzs,List.length_range']at this
  omega
 have setE:∀b,∃f:Nat→Bool,b<x.Bs.length→qg n x b (zs.map fun k:Nat=>(k:Int))=some (((List.range' 0 x.Bs.length).filter f).map fun j:Nat=>(j:Int))∧f b=true∧(∀i j,zM6 x (zs.map fun k:Nat=>(k:Int)) i j→(f i=true↔f j=true))∧∀S:Nat→Prop,(∀i j,zM6 x (zs.map fun k:Nat=>(k:Int)) i j→(S i↔S j))→S b→∀j,f j=true→S j:=fun b=>by
  by_cases hb:b<x.Bs.length
  ·obtain⟨f,h⟩:=zFr n x b (zs.map fun k:Nat=>(k:Int)) hb (by omega) (by omega) (by rw[List.length_map];omega) hn
   exact⟨f,fun _=>h⟩
  ·exact⟨fun _=>false,fun h=>absurd h hb⟩
 obtain⟨f,hf⟩:=Classical.skolem.1 setE
 have edge:∀k i p w j q,EdN n x k i p w j q→i<x.Bs.length∧j<x.Bs.length∧(zM6 x (zs.map fun k:Nat=>(k:Int)) i j∨zM6 x (zs.map fun k:Nat=>(k:Int)) j i):=fun k i p w j q he=>by
  obtain⟨hk,hu,he,hi,hj,_⟩:=he
  have hm:((k:Nat):Int)∈zs.map fun k:Nat=>(k:Int):=List.mem_map.2 ⟨k,hall k hk hu,rfl⟩
  refine⟨hi,hj,?_⟩
  rcases he with⟨g1,_,g3,_⟩|⟨g1,_,g3,_⟩
  ·exact .inl ⟨_,hm,_,zK hk,g1,g3,hi,hj⟩
  ·exact .inr ⟨_,hm,_,zK hk,g3,g1,hj,hi⟩
 have same:∀b c,b<x.Bs.length→c<x.Bs.length→f b c=true→∀j,f b j=true↔f c j=true:=fun b c hb hc h=>by
  obtain⟨_,b1,b2,b3⟩:=hf b hb
  obtain⟨_,c1,c2,c3⟩:=hf c hc
  have back:f c b=true:=by
   cases e:f c b with
   |true=>rfl
   |false=>
    have:=b3 (fun j=>f b j=true∧¬f c j=true) (fun i j hl=>and_congr (b2 i j hl) (not_congr (c2 i j hl))) ⟨b1,by rw[e];exact Bool.false_ne_true⟩ c h
    exact absurd c1 this.2
  exact fun j=>⟨fun hj=>b3 (fun j=>f c j=true) c2 back j hj,fun hj=>c3 (fun j=>f b j=true) b2 h j hj⟩
 have rootE:∀b,∃r,∀hb:b<x.Bs.length,∃hr:r<x.Bs.length,f b r=true∧ZN n x b=some (r:Int)∧qw n x b=some x.Bs[r].Id∧x.Bs[r].Id≤x.Bs[b].Id:=fun b=>by
  by_cases hb:b<x.Bs.length
  ·obtain⟨j1,j2,_,_⟩:=hf b hb
   have hmem:∀j,j∈(List.range' 0 x.Bs.length).filter (f b)↔j<x.Bs.length∧f b j=true:=fun j=>by
    rw[List.mem_filter,List.mem_range']
    constructor
    ·rintro⟨⟨i,hi,e⟩,h2⟩;exact⟨by omega,h2⟩
    ·rintro⟨h1,h2⟩;exact⟨⟨j,h1,by omega⟩,h2⟩
   obtain⟨r,hr,r1,r2,r3,r4⟩:=zEb n x b _ ((List.range' 0 x.Bs.length).filter (f b)) hu j1 (by
    have:=List.length_filter_le (f b) (List.range' 0 x.Bs.length)
    rw[List.length_range']at this
    omega) hn (fun j hj=>((hmem j).1 hj).1) (fun h=>by
    have:=(hmem b).2 ⟨hb,j2⟩
    rw[h]at this
    cases this)
   exact⟨r,fun _=>⟨hr,((hmem r).1 r1).2,r2,r3,r4 b hb ((hmem b).2 ⟨hb,j2⟩)⟩⟩
  ·exact⟨0,fun h=>absurd h hb⟩
 obtain⟨R,hR⟩:=Classical.skolem.1 rootE
 have distE:∀r,∃K:Nat→Int,(∀i,K i≤1000000)∧(r<x.Bs.length→(∀i d,zBs (zG2 n x) r i d→zBs (zG2 n x) r i (K i)∧K i≤d)∧∀b:Nat,b<x.Bs.length→ZN n x b=some (r:Int)→ZP n x b=some (K b)):=fun r=>by
  by_cases hr:r<x.Bs.length
  ·obtain⟨K,k0,k1,k2⟩:=zRd hn hx r hr zs hz hall hzl hu
   exact⟨K,k0,fun _=>⟨k1,k2⟩⟩
  ·exact⟨fun _=>0,fun _=>(show(0:Int)≤1000000 by decide),fun h=>absurd h hr⟩
 obtain⟨K,hK⟩:=Classical.skolem.1 distE
 refine⟨R,K,fun r i=>(hK r).1 i,fun b hb=>?_,fun k i p w j q he=>?_⟩
 ·obtain⟨hr,r1,r2,r3,r4⟩:=hR b hb
  obtain⟨k1,k2⟩:=(hK (R b)).2 hr
  refine⟨hr,r3,r4,k2 b hb r2,?_,k1⟩
  obtain⟨_,c1,c2,c3⟩:=hf (R b) hr
  have hb':f (R b) b=true:=(same b (R b) hb hr r1 b).1 (hf b hb).2.1
  refine c3 (fun j=>∃d,zBs (zG2 n x) (R b) j d) (fun i j hl=>?_) ⟨0,.start⟩ b hb'
  obtain⟨z,hzm,lk,hlk,hA,hB,hi,hj⟩:=hl
  obtain⟨k,hkz,rfl⟩:=List.mem_map.1 hzm
  obtain⟨hk,hup⟩:=hz k hkz
  rw[zK hk]at hlk
  cases hlk
  obtain⟨a,p,c,q,ha,hc,eA,eP,eB,eQ,hac,hp,hq,_⟩:=hx.ends hk
  have q1:a=i:=by omega
  have q2:c=j:=by omega
  subst q1;subst q2
  have e1:EdN n x k c q x.Bs[c].Ps[q].Co a p:=⟨hk,hup,.inr ⟨eB,eQ,eA,eP⟩,hc,ha,by unfold ZQ;rw[zK hc,bQ,zK hq];rfl⟩
  have e2:EdN n x k a p x.Bs[a].Ps[p].Co c q:=⟨hk,hup,.inl ⟨eA,eP,eB,eQ⟩,ha,hc,by unfold ZQ;rw[zK ha,bQ,zK hp];rfl⟩
  exact⟨fun⟨d,h⟩=>⟨_,.step a c d _ h ⟨_,_,_,e1⟩⟩,fun⟨d,h⟩=>⟨_,.step c a d _ h ⟨_,_,_,e2⟩⟩⟩
 ·obtain⟨hi,hj,hl⟩:=edge k i p w j q he
  have hij:f i j=true:=by
   obtain⟨_,c1,c2,_⟩:=hf i hi
   rcases hl with hl|hl
   ·exact(c2 i j hl).1 c1
   ·exact(c2 j i hl).2 c1
  obtain⟨hr,_,r2,_⟩:=hR i hi
  obtain⟨hr',_,r2',_⟩:=hR j hj
  have e:ZN n x j=ZN n x i:=by
   unfold ZN
   rw[hu,bQ,bQ,(hf i hi).1,(hf j hj).1,bQ,bQ]
   have:(List.range' 0 x.Bs.length).filter (f j)=(List.range' 0 x.Bs.length).filter (f i):=List.filter_congr fun z _=>by
    exact Bool.eq_iff_iff.2 (same i j hi hj hij z).symm
   rw[this]
  rw[r2,r2']at e
  have:=Option.some.inj e
  omega
def zI4(d y:List Int)(a b:Nat)(c:Int):List Int:=if 0≤gd d a∧(gd y b<0∨gd d a+c<gd y b)then y.set b (gd d a+c)else y
theorem zPK(d y:List Int)(a b:Nat)(c:Int):(zI4 d y a b c).length=y.length:=by unfold zI4;split<;>simp
theorem zQf(d y:List Int)(a b:Nat)(c:Int)(hb:b<y.length)(hc:1≤c):(∀i,(0≤gd y i→0≤gd (zI4 d y a b c) i∧gd (zI4 d y a b c) i≤gd y i)∧(gd (zI4 d y a b c) i=gd y i∨i=b∧0≤gd d a∧gd (zI4 d y a b c) i=gd d a+c))∧(0≤gd d a→0≤gd (zI4 d y a b c) b∧gd (zI4 d y a b c) b≤gd d a+c):=by
 unfold zI4
 by_cases h:0≤gd d a∧(gd y b<0∨gd d a+c<gd y b)
 ·rw[if_pos h]
  refine⟨fun i=>?_,fun h0=>?_⟩
  ·rw[zLB hb]
   by_cases hi:i=b
   ·subst hi
    rw[if_pos rfl]
    exact⟨fun h0=>by omega,.inr ⟨rfl,h.1,rfl⟩⟩
   ·rw[if_neg hi]
    exact⟨fun h0=>⟨h0,Int.le_refl _⟩,.inl rfl⟩
  ·rw[zLB hb,if_pos rfl];omega
 ·rw[if_neg h]
  exact⟨fun i=>⟨fun h0=>⟨h0,Int.le_refl _⟩,.inl rfl⟩,fun h0=>by omega⟩
theorem zOh{n:Nat}{x:Net}(hx:Q0 n x)(d y:List Int)(hd:d.length=x.Bs.length)(hy:y.length=x.Bs.length)(hb:∀i,gd d i≤100000000)(hb0:∀i,-1≤gd d i)(m k:Nat)(hk:k<x.Ls.length)(hu:qD n x k=some true):
  ∃(a p b q:Nat) (ca cb:Int),EdN n x k b q cb a p∧EdN n x k a p ca b q∧zi n (m+1) x d k y=zi n m x d ((k+1:Nat):Int) (zI4 d (zI4 d y a b cb) b a ca):=by
 have h9:=hx.2.2.1.2.2.1
 obtain⟨a,p,b,q,ha,hbb,eA,eP,eB,eQ,hab,hp,hq,hp6,hq6⟩:=hx.ends hk
 have e1:EdN n x k b q x.Bs[b].Ps[q].Co a p:=⟨hk,hu,.inr ⟨eB,eQ,eA,eP⟩,hbb,ha,by unfold ZQ;rw[zK hbb,bQ,zK hq];rfl⟩
 have e2:EdN n x k a p x.Bs[a].Ps[p].Co b q:=⟨hk,hu,.inl ⟨eA,eP,eB,eQ⟩,ha,hbb,by unfold ZQ;rw[zK ha,bQ,zK hp];rfl⟩
 obtain⟨_,_,c1,c1'⟩:=zBg hx ⟨_,_,_,e1⟩
 obtain⟨_,_,c2,c2'⟩:=zBg hx ⟨_,_,_,e2⟩
 refine⟨a,p,b,q,_,_,e1,e2,?_⟩
 obtain⟨u,u1,u2⟩:=hx.link x.Said k
 have u1':qV n x k=some u:=u1
 have u2':qD n x k=some u:=u2
 rw[hu]at u2'
 cases u2'
 have ba:=hb a
 have bb:=hb b
 have ba0:=hb0 a
 have bb0:=hb0 b
 rw[zi,tQ (show(k:Int)<(x.Ls.length:Int) by omega),cQ,u1',bQ]
 simp only[nQ,fQ]
 rw[zK hk,bQ,eA,eB,eP,eQ,zK hbb,bQ,zK hq,bQ,zK ha,bQ,zK hp,bQ,zEz (d:=d) (by omega),bQ,zEz (d:=y) (a:=b) (by omega),bQ]
 have j3:∀z:List Int,z.length=x.Bs.length→Qe n (fun v=>zi n m x d v.1 v.2) x.Bs[a].Ps[p] x.Ls[k] d k z=zi n m x d ((k+1:Nat):Int) (zI4 d z b a x.Bs[a].Ps[p].Co):=fun z hz=>by
  unfold Qe Qf
  simp only[eA,eB,zEz (d:=d) (a:=b) (by omega),zEz (d:=z) (a:=a) (by omega),bQ,wQ (z:=gd d b+x.Bs[a].Ps[p].Co),vQ k,Int.toNat_natCast]
  unfold zI4
  by_cases h0:0≤gd d b
  ·rw[tQ (show gd d b≥0 from h0),cQ]
   by_cases h1:gd z a<0
   ·rw[tQ h1,cQ,cQ,if_pos ⟨h0,.inl h1⟩]
   ·rw[dQ h1,fQ]
    by_cases h2:gd d b+x.Bs[a].Ps[p].Co<gd z a
    ·rw[tQ h2,if_pos ⟨h0,.inr h2⟩,cQ]
    ·rw[dQ h2,if_neg (by omega),fQ]
  ·rw[dQ (show¬gd d b≥0 from h0),fQ,if_neg (by omega),fQ]
 have j5:∀t:Bool,QB n (fun v=>zi n m x d v.1 v.2) x.Bs[a].Ps[p] x.Ls[k] x.Bs[b].Ps[q] d k y t=zi n m x d ((k+1:Nat):Int) (zI4 d (bif t then y.set b (gd d a+x.Bs[b].Ps[q].Co)else y) b a x.Bs[a].Ps[p].Co):=fun t=>by
  unfold QB
  rw[eA,eB,zEz (d:=d) (a:=a) (by omega),bQ,zEz (d:=y) (a:=b) (by omega),bQ,wQ (z:=gd d a+x.Bs[b].Ps[q].Co),Int.toNat_natCast]
  cases t with
  |true=>rw[cQ,cQ];exact j3 _ (by rw[List.length_set,hy])
  |false=>rw[fQ,fQ];exact j3 _ hy
 simp only[j5,bQ,wQ (z:=gd d a+x.Bs[b].Ps[q].Co)]
 have rx:∀t:Bool,(t=true↔0≤gd d a∧(gd y b<0∨gd d a+x.Bs[b].Ps[q].Co<gd y b))→(bif t then y.set b (gd d a+x.Bs[b].Ps[q].Co)else y)=zI4 d y a b x.Bs[b].Ps[q].Co:=fun t ht=>by
  unfold zI4
  cases t with
  |true=>rw[if_pos (ht.1 rfl)];rfl
  |false=>rw[if_neg (fun h=>by have:=ht.2 h;cases this)];rfl
 by_cases h0:0≤gd d a
 ·rw[tQ (show gd d a≥0 from h0),cQ]
  by_cases h1:gd y b<0
  ·rw[tQ h1,cQ,rx true ⟨fun _=>⟨h0,.inl h1⟩,fun _=>rfl⟩]
  ·rw[dQ h1,fQ,rx _ ⟨fun h=>⟨h0,.inr (of_decide_eq_true h)⟩,fun h=>tQ (by omega)⟩]
 ·rw[dQ (show¬gd d a≥0 from h0),fQ,rx false ⟨fun h=>(by cases h),fun h=>absurd h.1 h0⟩]
def zPT(n:Nat)(x:Net)(root:Nat)(B0:Int)(d:List Int)(j:Nat)(y:List Int):Prop:=
 y.length=x.Bs.length∧(∀i,gd y i≤B0+1000∧ -1≤gd y i)∧(∀i,0≤gd d i→0≤gd y i∧gd y i≤gd d i)∧(∀i,0≤gd y i→zBs (zG2 n x) root i (gd y i))∧
 ∀k,k<j→∀a b c p q,EdN n x k b q c a p→0≤gd d a→0≤gd y b∧gd y b≤gd d a+c
theorem zQx{n:Nat}(hn:1048700<n){x:Net}(hx:Q0 n x)(root:Nat)(d:List Int)(hd:d.length=x.Bs.length)(B0:Int)(hB0:0≤B0)(hB1:B0≤100000000)(hb:∀i,gd d i≤B0)(hb0:∀i,-1≤gd d i)(hway:∀i,0≤gd d i→zBs (zG2 n x) root i (gd d i)):
  ∃y:List Int,QP n x d=some y∧zPT n x root B0 d x.Ls.length y:=by
 have h6:=hx.2.2.1.2.1.2
 have h9:=hx.2.2.1.2.2.1
 have loop:∀(m j:Nat) (y:List Int),j≤x.Ls.length→x.Ls.length<m+j→zPT n x root B0 d j y→∃y':List Int,zi n m x d j y=some (.inl y')∧zPT n x root B0 d x.Ls.length y':=fun m=>by
  induction m with
  |zero=>intro j y h1 h2;omega
  | succ m ih =>
   intro j y h1 h2 hI
   by_cases hj:j<x.Ls.length
   ·obtain⟨p0,_,_,_,_,l4,l5,_⟩:=hx.linkV hj
    cases hu:p0.Up with
    | false =>
     rw[zi,tQ (show(j:Int)<(x.Ls.length:Int) by omega),cQ,l4,bQ,hu]
     simp only[Bool.not_false,cQ]
     rw[vQ j]
     obtain⟨i1,i2,i3,i4,i5⟩:=hI
     refine ih (j+1) y (by omega) (by omega) ⟨i1,i2,i3,i4,fun k hk a b c p q he h0=>?_⟩
     by_cases hkj:k<j
     ·exact i5 k hkj a b c p q he h0
     ·have:k=j:=by omega
      subst this
      have:=he.2.1
      rw[l5,hu]at this
      cases this
    | true =>
     rw[hu]at l5
     obtain⟨i1,i2,i3,i4,i5⟩:=hI
     obtain⟨a,p,b,q,ca,cb,e1,e2,e⟩:=zOh hx d y hd i1 (fun i=>by have:=hb i;omega) hb0 m j hj l5
     rw[e]
     obtain⟨wa,wb,c1,c1'⟩:=zBg hx ⟨_,_,_,e1⟩
     obtain⟨_,_,c2,c2'⟩:=zBg hx ⟨_,_,_,e2⟩
     obtain⟨f1,g1⟩:=zQf d y a b cb (by omega) c1
     have l1:=zPK d y a b cb
     generalize zI4 d y a b cb=y1 at f1 g1 l1⊢
     obtain⟨f2,g2⟩:=zQf d y1 b a ca (by omega) c2
     have l2:=zPK d y1 b a ca
     generalize zI4 d y1 b a ca=y2 at f2 g2 l2⊢
     refine ih (j+1) y2 (by omega) (by omega) ⟨by omega,fun i=>?_,fun i h0=>?_,fun i h0=>?_,fun k hk a' b' c' p' q' he h0=>?_⟩
     ·have v:=i2 i
      have va:=hb a
      have vb:=hb b
      rcases(f2 i).2 with h|⟨_,h',h⟩
      ·rcases(f1 i).2 with g|⟨_,g',g⟩<;>omega
      ·omega
     ·have v:=i3 i h0
      have v1:=(f1 i).1 v.1
      have v2:=(f2 i).1 v1.1
      omega
     ·rcases(f2 i).2 with h|⟨rfl,h',h⟩
      ·rcases(f1 i).2 with g|⟨rfl,g',g⟩
       ·rw[h,g];exact i4 i (by omega)
       ·rw[h,g];exact .step a i _ _ (hway a g') ⟨_,_,_,e1⟩
      ·rw[h];exact .step b i _ _ (hway b h') ⟨_,_,_,e2⟩
     ·by_cases hkj:k<j
      ·have v:=i5 k hkj a' b' c' p' q' he h0
       have v1:=(f1 b').1 v.1
       have v2:=(f2 b').1 v1.1
       omega
      ·have:k=j:=by omega
       subst this
       have both:(b'=b∧q'=q∧a'=a)∨(b'=a∧q'=p∧a'=b):=by
        have h1:=he.2.2.1
        have h2:=e1.2.2.1
        rcases h1 with⟨u1,u2,u3,u4⟩|⟨u1,u2,u3,u4⟩<;>rcases h2 with⟨w1,w2,w3,w4⟩|⟨w1,w2,w3,w4⟩
        ·exact .inl ⟨by omega,by omega,by omega⟩
        ·exact .inr ⟨by omega,by omega,by omega⟩
        ·exact .inr ⟨by omega,by omega,by omega⟩
        ·exact .inl ⟨by omega,by omega,by omega⟩
       rcases both with⟨rfl,rfl,rfl⟩|⟨rfl,rfl,rfl⟩
       ·have hc:=he.2.2.2.2.2
        rw[e1.2.2.2.2.2]at hc
        have hc:=Option.some.inj hc
        have v1:=g1 h0
        have v2:=(f2 b').1 v1.1
        omega
       ·have hc:=he.2.2.2.2.2
        rw[e2.2.2.2.2.2]at hc
        have hc:=Option.some.inj hc
        have v1:=g2 h0
        omega
   ·have:j=x.Ls.length:=by omega
    subst this
    rw[zi,dQ (show¬(x.Ls.length:Int)<(x.Ls.length:Int) by omega),fQ]
    exact⟨y,rfl,hI⟩
 obtain⟨y,e,I⟩:=loop n 0 d (Nat.zero_le _) (by omega) ⟨hd,fun i=>⟨by have:=hb i;omega,hb0 i⟩,fun i h=>⟨h,Int.le_refl _⟩,hway,fun k hk=>absurd hk (Nat.not_lt_zero k)⟩
 refine⟨y,?_,I⟩
 unfold QP
 rw[tQ (by simp;omega),cQ,List.nil_append,show zi n n x d 0 d= _ from e]
 rfl
theorem zJs{n:Nat}(hn:1048700<n){x:Net}(hx:Q0 n x)(root:Nat)(hr:root<x.Bs.length)(d0:List Int)(hl:d0.length=x.Bs.length)(h0:∀i,gd d0 i=if i=root then 0 else-1):
  ∃d':List Int,QX n n x 0 d0=some (.inl d')∧d'.length=x.Bs.length∧∀i d,zBs (zG2 n x) root i d→zBs (zG2 n x) root i (gd d' i)∧gd d' i≤d:=by
 have h6:=hx.2.2.1.2.1.2
 let F:List Int→List Int:=fun d=>match QP n x d with
  |some d'=>d'
  |none=>d
 let f:Nat→List Int:=fun t=>Nat.rec d0 (fun _ d=>F d) t
 have step:∀(t:Nat) (d:List Int),t≤1000→d.length=x.Bs.length→(∀i,gd d i≤1000*t∧ -1≤gd d i)→(∀i,0≤gd d i→zBs (zG2 n x) root i (gd d i))→
   QP n x d=some (F d)∧zPT n x root (1000*t) d x.Ls.length (F d):=fun t d ht h1 h2 h3=>by
  obtain⟨d',e,I⟩:=zQx hn hx root d h1 (1000*t) (by omega) (by omega) (fun i=>(h2 i).1) (fun i=>(h2 i).2) h3
  have hF:F d=d':=by show(match QP n x d with|some d'=>d'|none=>d)=d';rw[e]
  rw[hF]
  exact⟨e,I⟩
 have inv:∀t,t≤1000→(f t).length=x.Bs.length∧(∀i,gd (f t) i≤1000*t∧ -1≤gd (f t) i)∧∀i,0≤gd (f t) i→zBs (zG2 n x) root i (gd (f t) i):=fun t=>by
  induction t with
  | zero =>
   intro _
   refine⟨hl,fun i=>?_,fun i h=>?_⟩
   ·show gd d0 i≤_∧_≤gd d0 i;rw[h0];split<;>omega
   ·have h:0≤gd d0 i:=h
    show zBs _ root i (gd d0 i)
    rw[h0]at h⊢
    by_cases hi:i=root
    ·subst hi;rw[if_pos rfl];exact .start
    ·rw[if_neg hi]at h;omega
  |succ t ih=>
   intro ht
   obtain⟨i1,i2,i3⟩:=ih (by omega)
   obtain⟨_,p1,p2,p3,p4,_⟩:=step t (f t) (by omega) i1 i2 i3
   exact⟨p1,fun i=>by have:=p2 i;show gd (F (f t)) i≤_∧_≤gd (F (f t)) i;omega,p4⟩
 have pass:∀t,t≤1000→QP n x (f t)=some (f (t+1))∧zPT n x root (1000*t) (f t) x.Ls.length (f (t+1)):=fun t ht=>by
  obtain⟨i1,i2,i3⟩:=inv t ht
  exact step t (f t) ht i1 i2 i3
 have loop:∀m k:Nat,k≤x.Bs.length→x.Bs.length<m+k→QX n m x k (f k)=some (.inl (f x.Bs.length)):=fun m=>by
  induction m with
  |zero=>intro k h1 h2;omega
  | succ m ih =>
   intro k h1 h2
   rw[QX]
   by_cases hk:k<x.Bs.length
   ·rw[tQ (show(k:Int)<(x.Bs.length:Int) by omega),cQ,(pass k (by omega)).1,bQ,vQ k]
    exact ih (k+1) (by omega) (by omega)
   ·have:k=x.Bs.length:=by omega
    subst this
    rw[dQ (show¬(x.Bs.length:Int)<(x.Bs.length:Int) by omega),fQ]
 refine⟨f x.Bs.length,loop n 0 (Nat.zero_le _) (by omega),(inv _ (by omega)).1,?_⟩
 refine zMT x.Bs.length root hr (zG2 n x) (fun a b c h=>by have:=zBg hx h;exact⟨this.1,this.2.1,this.2.2.1⟩) (fun t i=>gd (f t) i) ?_ ?_ ?_ ?_
 ·show gd d0 root=0;rw[h0,if_pos rfl]
 ·intro t i ht hi h;exact(pass t (by omega)).2.2.2.1 i h
 ·intro t i ht hi h;exact(inv t (by omega)).2.2 i h
 ·intro t a b c ht hw h
  obtain⟨k,p,q,he⟩:=hw
  exact(pass t (by omega)).2.2.2.2.2 k he.1 a b c p q he h
theorem zM3{n:Nat}(hn:1048700<n){x:Net}(hx:Q0 n x)(xs:List Nat)(hxs:∀j∈xs,j<x.Bs.length)(hlen:xs.length≤1000):
  ∃y,ZM n n (xs.map fun j:Nat=>(j:Int)) x 0 0=some (.inl y)∧((y=0∧xs=[])∨(∃j,∃hj:j<x.Bs.length,j∈xs∧y=x.Bs[j].Id)∧∀j (hj:j<x.Bs.length),j∈xs→y≤x.Bs[j].Id):=by
 have id1:∀j (hj:j<x.Bs.length),1≤x.Bs[j].Id:=fun j hj=>by
  have s:=(hx.br hj).2.2
  have qs:x.Bs[j].Name.size+x.Bs[j].Ps.length+x.Bs[j].F.length+x.Bs[j].V.sz=x.Bs[j].sz:=rfl
  exact(qF n _ (by omega) (hx.br hj).1).2.2.1
 have loop:∀(m k:Nat) (y:Int),k≤xs.length→xs.length<m+k→((y=0∧k=0)∨(∃j,∃hj:j<x.Bs.length,j∈xs∧y=x.Bs[j].Id)∧∀(i:Nat) (hi:i<xs.length) (hj:xs[i]<x.Bs.length),i<k→y≤x.Bs[xs[i]].Id)→
   ∃y',ZM n m (xs.map fun j:Nat=>(j:Int)) x k y=some (.inl y')∧((y'=0∧xs.length=0)∨(∃j,∃hj:j<x.Bs.length,j∈xs∧y'=x.Bs[j].Id)∧∀(i:Nat) (hi:i<xs.length) (hj:xs[i]<x.Bs.length),i<xs.length→y'≤x.Bs[xs[i]].Id):=fun m=>by
  induction m with
  |zero=>intro k y h1 h2;omega
  | succ m ih =>
   intro k y h1 h2 hI
   rw[ZM]
   by_cases hk:k<xs.length
   ·have hkm:k<(xs.map fun j:Nat=>(j:Int)).length:=by simpa using hk
    have hj:=hxs _ (List.getElem_mem hk)
    have hbi:idx x.Bs ((xs[k]:Nat):Int)=some x.Bs[xs[k]]:=zK hj
    rw[tQ (show(k:Int)<((xs.map fun j:Nat=>(j:Int)).length:Int) by omega),cQ,zK hkm,bQ,List.getElem_map,hbi,bQ,vQ k]
    have new:(∀(i:Nat) (hi:i<xs.length) (hj:xs[i]<x.Bs.length),i<k→x.Bs[xs[k]].Id≤x.Bs[xs[i]].Id)→∃y',ZM n m (xs.map fun j:Nat=>(j:Int)) x ((k+1:Nat):Int) x.Bs[xs[k]].Id=some (.inl y')∧((y'=0∧xs.length=0)∨(∃j,∃hj:j<x.Bs.length,j∈xs∧y'=x.Bs[j].Id)∧∀(i:Nat) (hi:i<xs.length) (hj:xs[i]<x.Bs.length),i<xs.length→y'≤x.Bs[xs[i]].Id):=fun h=>
     ih (k+1) _ (by omega) (by omega) (.inr ⟨⟨xs[k],hj,List.getElem_mem hk,rfl⟩,fun i hi hj' hik=>by
      by_cases h':i<k
      ·exact h i hi hj' h'
      ·have:i=k:=by omega
       subst this
       exact Int.le_refl _⟩)
    rcases hI with⟨rfl,rfl⟩|⟨⟨j,hj',hm,e⟩,hle⟩
    ·rw[beq_self_eq_true,cQ]
     exact new fun i _ _ h=>absurd h (Nat.not_lt_zero i)
    ·have:=id1 j hj'
     rw[show(y==0)=false by rw[beq_eq_false_iff_ne];omega,fQ]
     by_cases h3:x.Bs[xs[k]].Id<y
     ·rw[tQ h3,cQ]
      exact new fun i hi hj' h=>by have:=hle i hi hj' h;omega
     ·rw[dQ h3,fQ]
      refine ih (k+1) y (by omega) (by omega) (.inr ⟨⟨j,hj',hm,e⟩,fun i hi hj' hik=>?_⟩)
      by_cases h':i<k
      ·exact hle i hi hj' h'
      ·have:i=k:=by omega
       subst this
       omega
   ·have:k=xs.length:=by omega
    subst this
    rw[dQ (show¬(xs.length:Int)<((xs.map fun j:Nat=>(j:Int)).length:Int) by simp),fQ]
    refine⟨y,rfl,?_⟩
    rcases hI with⟨h,h'⟩|⟨h,h'⟩
    ·exact .inl ⟨h,h'⟩
    ·exact .inr ⟨h,h'⟩
 obtain⟨y,e,h⟩:=loop n 0 0 (Nat.zero_le _) (by omega) (.inl ⟨rfl,rfl⟩)
 refine⟨y,e,?_⟩
 rcases h with⟨h,h'⟩|⟨h,h'⟩
 ·exact .inl ⟨h,List.eq_nil_of_length_eq_zero h'⟩
 ·refine .inr ⟨h,fun j hj hm=>?_⟩
  obtain⟨i,hi,rfl⟩:=List.getElem_of_mem hm
  exact h' i hi hj hi
theorem zJ7{n:Nat}(hn:1048700<n){x:Net}(hx:Q0 n x)(b:Int):∃v,qw n x b=some v∧ZE n x b=some v:=by
 have h6:=hx.2.2.1.2.1.2
 have h9:=hx.2.2.1.2.2.1
 have hsz:=hx.sz
 obtain⟨l,u1,u2,u3,_⟩:=zCK n x hx.1 (by omega) (by omega)
 obtain⟨js,e1,e2,_⟩:=zCg n x b l (by omega) (by omega) (by omega)
 by_cases hb:0≤b∧b<(x.Bs.length:Int)
 ·obtain⟨b,rfl⟩:=Int.eq_ofNat_of_zero_le hb.1
  have hb:b<x.Bs.length:=by omega
  obtain⟨f,j1,j2,_,_⟩:=zFr n x b l hb (by omega) (by omega) (by omega) hn
  have hmem:∀j,j∈(List.range' 0 x.Bs.length).filter f↔j<x.Bs.length∧f j=true:=fun j=>by
   rw[List.mem_filter,List.mem_range']
   constructor
   ·rintro⟨⟨i,hi,e⟩,h2⟩;exact⟨by omega,h2⟩
   ·rintro⟨h1,h2⟩;exact⟨⟨j,h1,by omega⟩,h2⟩
  have hlen:((List.range' 0 x.Bs.length).filter f).length≤1000:=by
   have:=List.length_filter_le f (List.range' 0 x.Bs.length)
   rw[List.length_range']at this
   omega
  have hlt:∀j∈(List.range' 0 x.Bs.length).filter f,j<x.Bs.length:=fun j hj=>((hmem j).1 hj).1
  obtain⟨r,hr,r1,r2,r3,r4⟩:=zEb n x b l _ u2 j1 hlen hn hlt (fun h=>by
   have:=(hmem b).2 ⟨hb,j2⟩
   rw[h]at this
   cases this)
  refine⟨_,r3,?_⟩
  obtain⟨y,y1,y2⟩:=zM3 hn hx _ hlt hlen
  have e2':qg n x (b:Nat) l=some js:=e2
  rw[j1]at e2'
  cases e2'
  unfold ZE
  rw[u1,bQ,e1,bQ,y1]
  simp only[bQ,J2]
  rcases y2 with⟨_,h⟩|⟨⟨j,hj,hm,e⟩,hle⟩
  ·rw[h]at r1;cases r1
  ·have t1:=hle r hr r1
   have t2:=r4 j hj hm
   congr 1
   omega
 ·have out:qg n x b l=some []:=by
   unfold qg
   rw[qe,zV,bQ,wQ]
   rw[show(decide ((0:Int)≤b)&&decide (b≤(x.Bs.length:Int)-1))=false by
    rw[Bool.and_eq_false_iff,decide_eq_false_iff_not,decide_eq_false_iff_not];omega]
   rfl
  rw[out]at e2
  cases e2
  refine⟨0,?_,?_⟩
  ·unfold qw ZN
   rw[u2,bQ,out,bQ]
   obtain⟨n',rfl⟩:∃n',n=n'+1:=⟨n-1,by omega⟩
   rfl
  ·unfold ZE
   rw[u1,bQ,e1,bQ]
   obtain⟨n',rfl⟩:∃n',n=n'+1:=⟨n-1,by omega⟩
   rfl
theorem zPt{n:Nat}(hn:1048700<n){x:Net}(hx:Q0 n x)(b:Int)(hb:¬(0≤b∧b<(x.Bs.length:Int))):ZN n x b=some (-1):=by
 have h6:=hx.2.2.1.2.1.2
 have hsz:=hx.sz
 obtain⟨l,_,u2,_⟩:=zCK n x hx.1 (by omega) (by omega)
 have out:qg n x b l=some []:=by
  unfold qg
  rw[qe,zV,bQ,wQ]
  rw[show(decide ((0:Int)≤b)&&decide (b≤(x.Bs.length:Int)-1))=false by
   rw[Bool.and_eq_false_iff,decide_eq_false_iff_not,decide_eq_false_iff_not];omega]
  rfl
 unfold ZN
 rw[u2,bQ,out,bQ]
 obtain⟨n',rfl⟩:∃n',n=n'+1:=⟨n-1,by omega⟩
 rfl
theorem zTg(d:List Int)(z:Int)(i:Nat):gd (d++[z]) i=if i=d.length then z else gd d i:=by
 unfold gd
 rw[List.getD_eq_getElem?_getD,List.getD_eq_getElem?_getD]
 by_cases h:i<d.length
 ·rw[List.getElem?_append_left h,if_neg (by omega)]
 ·by_cases h':i=d.length
  ·subst h'
   rw[if_pos rfl,List.getElem?_append_right (Nat.le_refl _),Nat.sub_self]
   rfl
  ·rw[if_neg h',List.getElem?_append_right (by omega),List.getElem?_eq_none (l:=d) (by omega),List.getElem?_eq_none (by simp;omega)]
theorem zNK{n:Nat}(hn:1048700<n){x:Net}(hx:Q0 n x)(b:Int):∃v,ZP n x b=some v∧QH n x b=some v:=by
 have h6:=hx.2.2.1.2.1.2
 by_cases hb:0≤b∧b<(x.Bs.length:Int)
 ·obtain⟨b,rfl⟩:=Int.eq_ofNat_of_zero_le hb.1
  have hb:b<x.Bs.length:=by omega
  obtain⟨R,K,_,k1,_⟩:=zR0 hn hx
  obtain⟨hr,r1,_,r3,⟨dd,hd⟩,r4⟩:=k1 b hb
  obtain⟨v,v1,v2⟩:=zJ7 hn hx b
  have v1:qw n x (b:Nat)=some v:=v1
  rw[r1]at v1
  cases v1
  refine⟨_,r3,?_⟩
  have uniq:∀j (hj:j<x.Bs.length),x.Bs[j].Id=x.Bs[R b].Id→j=R b:=fun j hj e=>by
   rcases Nat.lt_trichotomy j (R b)with h|h|h
   ·exact absurd e ((hx.2.2.1.1 _ hr hr).2.1 j h)
   ·exact h
   ·exact absurd e.symm ((hx.2.2.1.1 j hj hj).2.1 (R b) h)
  have init:∀(m k:Nat) (d:List Int),k≤x.Bs.length→x.Bs.length<m+k→d.length=k→(∀i,gd d i=if i=R b∧i<k then 0 else-1)→∃d':List Int,ZX n m x.Bs[R b].Id x k d=some (.inl d')∧d'.length=x.Bs.length∧∀i,gd d' i=if i=R b then 0 else-1:=fun m=>by
   induction m with
   |zero=>intro k d h1 h2;omega
   | succ m ih =>
    intro k d h1 h2 h3 h4
    rw[ZX]
    by_cases hk:k<x.Bs.length
    ·have hg:decide (d.length+1≤268435456)=true:=tQ (by omega)
     simp only[List.length_singleton,hg,cQ]
     rw[tQ (show(k:Int)<(x.Bs.length:Int) by omega),cQ,zK hk,bQ,vQ k]
     have new:∀z:Int,z=(if k=R b then 0 else-1)→∃d':List Int,ZX n m x.Bs[R b].Id x ((k+1:Nat):Int) (d++[z])=some (.inl d')∧d'.length=x.Bs.length∧∀i,gd d' i=if i=R b then 0 else-1:=fun z hz=>
      ih (k+1) _ (by omega) (by omega) (by simp;omega) fun i=>by
       rw[zTg,h3,h4]
       by_cases hi:i=k
       ·subst hi
        rw[if_pos rfl,hz]
        by_cases hi:i=R b
        ·rw[if_pos hi,if_pos ⟨hi,by omega⟩]
        ·rw[if_neg hi,if_neg (fun h=>hi h.1)]
       ·rw[if_neg hi]
        by_cases hi':i=R b∧i<k
        ·rw[if_pos hi',if_pos ⟨hi'.1,by omega⟩]
        ·rw[if_neg hi',if_neg (fun h=>hi' ⟨h.1,by omega⟩)]
     by_cases e:x.Bs[k].Id=x.Bs[R b].Id
     ·rw[show(x.Bs[k].Id==x.Bs[R b].Id)=true by simpa using e,cQ]
      exact new 0 (by rw[if_pos (uniq k hk e)])
     ·rw[show(x.Bs[k].Id==x.Bs[R b].Id)=false by simpa using e,fQ]
      exact new (-1) (by rw[if_neg (fun h=>e (by subst h;rfl))])
    ·have:k=x.Bs.length:=by omega
     subst this
     rw[dQ (show¬(x.Bs.length:Int)<(x.Bs.length:Int) by omega),fQ]
     refine⟨d,rfl,h3,fun i=>?_⟩
     rw[h4]
     by_cases hi:i=R b
     ·rw[if_pos hi,if_pos ⟨hi,by omega⟩]
     ·rw[if_neg hi,if_neg (fun h=>hi h.1)]
  obtain⟨d0,i1,i2,i3⟩:=init n 0 [] (Nat.zero_le _) (by omega) rfl (fun i=>by rw[if_neg (fun h=>absurd h.2 (Nat.not_lt_zero i))];rfl)
  obtain⟨d',j1,j2,j3⟩:=zJs hn hx (R b) hr d0 i2 i3
  have e:gd d' b=K (R b) b:=by
   have t1:=j3 b dd hd
   have t2:=r4 b dd hd
   have t3:=(j3 b _ t2.1).2
   have t4:=(r4 b _ t1.1).2
   omega
  have i1:ZX n n x.Bs[R b].Id x 0 []=some (.inl d0):=i1
  unfold QH
  rw[zV,bQ,wQ,tQ (show(0:Int)≤((b:Nat):Int) by omega),tQ (show((b:Nat):Int)≤(x.Bs.length:Int)-1 by omega)]
  simp only[Bool.and_self,nQ,fQ]
  have v2:ZE n x (b:Nat)=some x.Bs[R b].Id:=v2
  show((ZE n x (b:Nat)).bind _)= _
  rw[v2,bQ,i1]
  simp only[bQ,J0,j1,J1]
  have hbd:idx d' ((b:Nat):Int)=some (gd d' b):=zEz (by omega)
  show((idx d' ((b:Nat):Int)).bind _)= _
  rw[hbd,bQ,e]
 ·refine⟨-1,?_,?_⟩
  ·unfold ZP
   rw[zPt hn hx b hb]
   rfl
  ·unfold QH
   rw[zV,bQ,wQ]
   rw[show(decide ((0:Int)≤b)&&decide (b≤(x.Bs.length:Int)-1))=false by
    rw[Bool.and_eq_false_iff,decide_eq_false_iff_not,decide_eq_false_iff_not];omega]
   rfl
theorem zPg{n:Nat}(hn:1048700<n){x:Net}(hx:Q0 n x)(b:Int):∃v,zBR n x b=some v∧zBT n x b=some v:=by
 have h6:=hx.2.2.1.2.1.2
 unfold zBR zBT
 rw[qe,zV,bQ,bQ,wQ]
 by_cases hb:0≤b∧b<(x.Bs.length:Int)
 ·obtain⟨b,rfl⟩:=Int.eq_ofNat_of_zero_le hb.1
  have hb:b<x.Bs.length:=by omega
  have s:=(hx.br hb).2.2
  have qs:x.Bs[b].Name.size+x.Bs[b].Ps.length+x.Bs[b].F.length+x.Bs[b].V.sz=x.Bs[b].sz:=rfl
  obtain⟨v,hv⟩:=zA1 n x.Bs[b].Id x.Bs[b].Ps (by omega) (by omega)
  obtain⟨r,r1,r2⟩:=zJ7 hn hx ((b:Nat):Int)
  obtain⟨d,d1,d2⟩:=zNK hn hx ((b:Nat):Int)
  have hi:idx x.Bs ((b:Nat):Int)=some x.Bs[b]:=zK hb
  refine⟨(bif v.1.Root==r then(v.1.Co==d)else false),?_,?_⟩
  all_goals
   rw[show(decide ((0:Int)≤((b:Nat):Int))&&decide (((b:Nat):Int)≤(x.Bs.length:Int)-1))=true by
    rw[Bool.and_eq_true,decide_eq_true_eq,decide_eq_true_eq];omega]
   simp only[nQ,fQ]
   simp only[hi,bQ,zDI,hv,r1,r2,d1,d2]
   cases(v.1.Root==r)<;>rfl
 ·refine⟨false,?_,?_⟩
  all_goals
   rw[show(decide ((0:Int)≤b)&&decide (b≤(x.Bs.length:Int)-1))=false by
    rw[Bool.and_eq_false_iff,decide_eq_false_iff_not,decide_eq_false_iff_not];omega]
   rfl
theorem zGq(x0:List Int)(h:x0.length≤1048576):∃y,Jg 1048800 x0=some y∧y.wf∧y.sz≤10000:=by
 obtain⟨c,e0,g0⟩:=zEv 1048800 x0 (by omega) (by omega)
 obtain⟨s,e1,a1,b1⟩:=zK0 x0 h 10 (by omega) (by omega)
 obtain⟨y,c2,e2,w2,s2,g2⟩:=zKv c g0 s a1 b1
 obtain⟨v3,c3,e3,g3⟩:=Yi 1048800 c2 2 g2
 obtain⟨v4,c4,e4,_,g4⟩:=zo 1048800 c3 [1,3,20] g3 (by decide)
 obtain⟨z,e5,_,s5,w5⟩:=zIj 1048800 y v4 w2 (by omega) (by omega)
 unfold Jg
 simp only[e0,e1,e2,e3,bQ]
 cases v3 with
 |false=>exact⟨y,rfl,w2,s2⟩
 |true=>
  simp only[cQ,e4,e5,bQ]
  exact⟨z,rfl,w5,by omega⟩
theorem zIs(x0:List Int)(h:x0.length≤1048576):∃y,zAD 1048800 x0=some y∧Q0 1048800 y:=by
 obtain⟨y,e,w,s⟩:=zGq x0 h
 obtain⟨o,o1,_⟩:=zNW 1048800 y w (Big.of (by omega)) (by omega)
 unfold zAD
 rw[e,bQ,o1,bQ]
 cases o with
 |true=>exact⟨y,rfl,Q0.of (by omega) w (Big.of (by omega)) o1⟩
 |false=>
  obtain⟨c,e0,g0⟩:=zEv 1048800 x0 (by omega) (by omega)
  obtain⟨z,c1,e1,g1,_⟩:=zF1 c g0 4 (by omega) (by omega)
  simp only[Bool.not_false,cQ,e0,e1,bQ]
  exact⟨z,rfl,g1⟩
theorem zF4(c:Src)(hc:c.ok):∃(zs:List Int) (c':Src),zAy 1048800 c=some (zs,c')∧zs.length≤9:=by
 have loop:∀(m k:Nat) (c:Src) (zs:List Int),c.ok→zs.length≤k→k≤9→9<m+k→∃(zs':List Int) (b:List Int) (i h:Int),QO 1048800 m k c.b c.i c.h zs=some (.inl (zs',b,i,h))∧zs'.length≤9:=fun m=>by
  induction m with
  |zero=>intro k c zs g h1 h2 h3;omega
  | succ m ih =>
   intro k c zs g h1 h2 h3
   rw[QO]
   by_cases hk:k<9
   ·obtain⟨v,c',e,g'⟩:=Yi 1048800 ⟨c.b,c.i,c.h⟩ 2 g
    rw[tQ (show(k:Int)<9 by omega),cQ,e,bQ,vQ k]
    cases v with
    |false=>exact ih (k+1) c' zs g' (by omega) (by omega) (by omega)
    |true=>
     simp only[cQ]
     rw[tQ (show zs.length+ [(k:Int)].length≤268435456 by simp;omega),cQ]
     exact ih (k+1) c' _ g' (by simp;omega) (by omega) (by omega)
   ·rw[dQ (show¬(k:Int)<9 by omega),fQ]
    exact⟨zs,_,_,_,rfl,by omega⟩
 obtain⟨zs,b,i,h,e,l⟩:=loop 1048800 0 c [] hc (Nat.le_refl _) (by omega) (by omega)
 unfold zAy
 rw[show QO 1048800 1048800 0 c.b c.i c.h []= _ from e]
 exact⟨zs,_,rfl,l⟩
theorem zFm(x0:List Int)(w0:zAt zP9 x0):∃n,zAI n x0=some true:=by
 refine⟨1048800,?_⟩
 simp only[zAI,zHv,bQ]
 by_cases hbig:(x0.length:Int)>1048576
 ·rw[tQ hbig];rfl
 rw[dQ hbig,fQ]
 have hx0:x0.length≤1048576:=by omega
 obtain⟨c,e1,g1⟩:=zEv 1048800 x0 (by omega) (by omega)
 obtain⟨y,ey,wy,sy⟩:=zGq x0 hx0
 obtain⟨x,ex,hx⟩:=zIs x0 hx0
 have sx:=hx.sz
 obtain⟨b,c2,e2,_,g2⟩:=zo 1048800 c [0,1,2,(-1),6] g1 (by decide)
 obtain⟨l,c3,e3,l3⟩:=zF4 c2 g2
 obtain⟨k,c4,e4,l4⟩:=zF4 c g1
 obtain⟨i,c5,e5,_⟩:=zo 1048800 c [0,1,2,3,(-1),6] g1 (by decide)
 obtain⟨q1,p1,p2⟩:=zIh 1048800 x hx.1 (by omega) (by omega)
 obtain⟨q2,p3,p4,s2⟩:=zKp 1048800 x hx.1 (by omega) (by omega)
 obtain⟨q3,p5,p6,s3⟩:=zCg 1048800 y b l (by omega) (by omega) (by omega)
 obtain⟨q4,p7,p8⟩:∃o,Y4 1048800 y k=some o∧Y1 1048800 y k=some o:=by
  obtain⟨o,o1,o2⟩:=zEe 1048800 y k (by omega) (by omega) (by omega) 1048800 0 (Nat.zero_le _) (by omega)
  unfold Y4 Y1
  rw[show YQ 1048800 1048800 y k 0= _ from o1,show YM 1048800 1048800 y k 0= _ from o2]
  cases o with
  |inl _=>exact⟨_,rfl,rfl⟩
  |inr r=>exact⟨_,rfl,rfl⟩
 obtain⟨q5,p9,p10⟩:=zJ7 (by omega) hx i
 obtain⟨q6,p11,p12⟩:=zNK (by omega) hx i
 obtain⟨q7,p13,p14⟩:=zPg (by omega) hx i
 obtain⟨q8,p15,p16,s8,_⟩:=zCK 1048800 y wy (by omega) (by omega)
 have lx:x.Ls.length≤400:=by
  have hs:(x.Bs.length+Ju zA.sz x.Bs)+x.Ls.length+x.Said.length=x.sz:=rfl
  omega
 have ly:y.Ls.length≤10000∧y.Bs.length≤10000:=by
  have hs:(y.Bs.length+Ju zA.sz y.Bs)+y.Ls.length+y.Said.length=y.sz:=rfl
  omega
 simp only[zBb,zBc,zB7,zAJ,zA4,e1,ey,ex,e2,e3,e4,e5,p1,p2,p3,p4,p5,p6,p7,p8,p9,p10,p11,p12,p13,p14,p15,p16,zBn 1048800 q2 (by omega) (by omega),zBn 1048800 q3 (by omega) (by omega),zBn 1048800 q8 (by omega) (by omega),bQ,beq_self_eq_true,cQ]
end Go.Proofs.YticeglbllcelaaaGreat.Tw
