import Derived.Test.YtajadnlejdpceaaTwTWP0
import Derived.Test.YtajadnlejdpceaaTlPlain
set_option linter.unusedVariables false
set_option linter.unusedSimpArgs false
set_option maxRecDepth 100000
set_option maxHeartbeats 1000000
namespace Go.Proofs.Ytajadnlejdpceaa.Tw
open Go Go.TL Go.Proofs
theorem zGZ (n : Nat) (v w : Vec) (c : Int) (h : Qc n v c = some (w,true)) : zw n w = some true := by
 unfold Qc at h
 obtain ⟨b1,h1,h⟩ := bind_some h
 cases b1 with
 | false => cases h
 | true =>
  obtain ⟨b2,h2,h⟩ := bind_some h
  cases b2 with
  | false => cases h
  | true =>
   obtain ⟨b3,h3,h⟩ := bind_some h
   cases b3 with
   | false => cases h
   | true => cases h; exact h3
def zLJ (a b c : Int) : Prop := (1 ≤ a ∧ a ≤ 99) ∧ (0 ≤ b ∧ b ≤ 100000) ∧ (0 ≤ c ∧ c ≤ 10)
theorem zBK (n : Nat) (x0 : Int) (x1 : List Pt) : ∀ (m : Nat) (y1 y2 y3 y4 y5 y6 y7 y8 y9 y10 : Int) (o : (Int × Int × Int × Int) ⊕ (Vec × Int)),zLJ y8 y9 y10 → zo n m x0 x1 y1 y2 y3 y4 y5 y6 y7 y8 y9 y10 = some o → ∃ z2 z8 z9 z10,o = .inl (z2,z8,z9,z10) ∧ zLJ z8 z9 z10
 | 0,y1,y2,y3,y4,y5,y6,y7,y8,y9,y10,o,hr,e => by cases e
 | m + 1,y1,y2,y3,y4,y5,y6,y7,y8,y9,y10,o,hr,e => by
  have ih := zBK n x0 x1 m
  rw [zo] at e
  cases hl : decide (y1 < (x1.length : Int)) with
  | false => rw [hl] at e; cases e; exact ⟨_,_,_,_,rfl,hr⟩
  | true =>
   rw [hl,cQ] at e
   obtain ⟨v,_,e⟩ := bind_some e
   cases hu : (!v.Up) with
   | true => rw [hu] at e; exact ih _ _ _ _ _ _ _ _ _ _ _ hr e
   | false =>
    rw [hu,fQ] at e
    obtain ⟨v1,_,e⟩ := bind_some e
    cases hh : (!v1.Has) with
    | true => rw [hh] at e; exact ih _ _ _ _ _ _ _ _ _ _ _ hr e
    | false =>
     rw [hh,fQ] at e
     obtain ⟨v2,_,e⟩ := bind_some e
     obtain ⟨v3,_,e⟩ := bind_some e
     obtain ⟨⟨w,ok⟩,hw,e⟩ := bind_some e
     simp only at e
     cases ok with
     | false => exact ih _ _ _ _ _ _ _ _ _ _ _ hr e
     | true =>
      have hv := (zEp n w).1 (zGZ n _ _ _ hw)
      have hr' : zLJ w.Root w.Co w.Hops := ⟨hv.1,hv.2.1,hv.2.2.1⟩
      rw [cQ] at e
      cases hd : decide (w.Root < x0) with
      | false => rw [hd] at e; exact ih _ _ _ _ _ _ _ _ _ _ _ hr e
      | true =>
       rw [hd,cQ] at e
       cases hd2 : decide (y2 < 0) with
       | true => rw [hd2] at e; exact ih _ _ _ _ _ _ _ _ _ _ _ hr' e
       | false =>
        rw [hd2,fQ] at e
        obtain ⟨c,_,e⟩ := bind_some e
        cases c with
        | true => exact ih _ _ _ _ _ _ _ _ _ _ _ hr' e
        | false => exact ih _ _ _ _ _ _ _ _ _ _ _ hr e
theorem zHI (n : Nat) (id : Int) (l : List Pt) (p : Int) (h0 : 1 ≤ id) (h1 : id ≤ 99) (hl : l.length ≤ 1048576) (hn : l.length < n) (p0 : 0 ≤ p) (p7 : p ≤ 7) : ∃ v,qV n id l p = some v ∧ zw n v = some true ∧ v.wf := by
 obtain ⟨⟨v,q⟩,e⟩ := zAO n id l hl hn
 have e' := e
 unfold QA at e'
 obtain ⟨o,ho,e'⟩ := bind_some e'
 obtain ⟨z2,z8,z9,z10,rfl,hr⟩ := zBK n id l n _ _ _ _ _ _ _ _ _ _ o ⟨⟨h0,h1⟩,⟨by omega,by omega⟩,⟨by omega,by omega⟩⟩ ho
 cases e'
 have hok : zw n (⟨z8,z9,z10,id,p⟩ : Vec) = some true := (zEp n _).2 ⟨hr.1,hr.2.1,hr.2.2,⟨h0,h1⟩,⟨p0,p7⟩⟩
 refine ⟨⟨z8,z9,z10,id,p⟩,?_,hok,zD9 n _ hok⟩
 unfold qV
 rw [e]
 rfl
theorem zEa (n : Nat) (x : zA) (hx : x.sz ≤ 1048576) (h : zN n x = some true) : x.sz ≤ 40 := by
 have hs : x.Name.size + x.Ps.length + x.F.length + x.V.sz = x.sz := rfl
 have hs2 : x.V.Rows.length + x.V.Pv.length = x.V.sz := rfl
 obtain ⟨p1,p2,p3,p4,p5,p6,p7,_⟩ := zt n x (by omega) h
 have h1 := (zAg n x.F (by omega) p6).1
 have h2 := zGa n x.V _ p7
 omega
def zy (n : Nat) (x : Net) : Prop := x.wf ∧ Big x ∧ zE0 n x ∧ zJ8 n x
theorem zy.ok {n : Nat} {x : Net} (hn : 1048700 < n) (h : zy n x) : QS n x = some true ∧ Yy n x = some true := by
 obtain ⟨b,e1,e2,e3⟩ := zAp n x h.1 h.2.1 hn
 rw [e3.2 ⟨h.2.2.1,h.2.2.2⟩] at e1 e2
 exact ⟨e1,e2⟩
theorem Big.of {x : Net} (h : x.sz ≤ 1048576) : Big x := by
 have hs : (x.Bs.length + Jr zA.sz x.Bs) + x.Ls.length + x.Said.length = x.sz := rfl
 exact ⟨by omega,fun a ha => by have := zDX (sz := zA.sz) ha; omega,by omega,by omega⟩
theorem zy.of {n : Nat} {x : Net} (hn : 1048700 < n) (wx : x.wf) (h : Big x) (e : QS n x = some true) : zy n x := by
 obtain ⟨b,e1,_,e3⟩ := zAp n x wx h hn
 rw [e] at e1
 have := e3.1 (Option.some.inj e1).symm
 exact ⟨wx,h,this.1,this.2⟩
theorem zK0 (n : Nat) (x : Net) (wx : x.wf) (h : Big x) (hn : 1048700 < n) : ∃ b,QS n x = some b ∧ Yy n x = some b ∧ (b = true → zE0 n x) ∧ (x.Said = [] → zE0 n x → b = true) := by
 obtain ⟨b,e1,e2,e3⟩ := zAp n x wx h hn
 exact ⟨b,e1,e2,fun hb => (e3.1 hb).1,fun hs hc => e3.2 ⟨hc,fun s hs' => by rw [hs] at hs'; cases hs'⟩⟩
theorem zy.br {n : Nat} {x : Net} (h : zy n x) {i : Nat} (hi : i < x.Bs.length) : zN n x.Bs[i] = some true ∧ x.Bs[i].wf ∧ x.Bs[i].sz ≤ 40 := by
 have hok := (h.2.2.1.1 i hi hi).1
 exact ⟨hok,h.1.1.2 _ (List.getElem_mem hi),zEa n _ (h.2.1.2.1 _ (List.getElem_mem hi)) hok⟩
theorem zJS {α : Type} {sz : α → Nat} {c : Nat} : ∀ (xs : List α),(∀ v ∈ xs,sz v ≤ c) → Jr sz xs ≤ c * xs.length
 | [],_ => Nat.zero_le _
 | x :: xs,h => by
  have h1 := h x (by simp)
  have h2 := zJS xs fun v hv => h v (by simp [hv])
  simp only [Jr,List.length_cons,Nat.mul_succ]
  omega
theorem zy.sz {n : Nat} {x : Net} (h : zy n x) : x.sz ≤ 400 := by
 have hs : (x.Bs.length + Jr zA.sz x.Bs) + x.Ls.length + x.Said.length = x.sz := rfl
 have h1 := zJS (sz := zA.sz) (c := 40) x.Bs fun v hv => by
  obtain ⟨i,hi,rfl⟩ := List.getElem_of_mem hv
  exact (h.br hi).2.2
 have h2 := h.2.2.1.2.1
 have h3 := h.2.2.1.2.2.1
 have h4 := h.2.2.1.2.2.2.1
 omega
theorem zAz {α : Type} {xs : List α} {i : Nat} (hi : i < xs.length) (v : α) (b : Int) : idx (xs.set i v) b = if b = (i : Int) then some v else idx xs b := by
 by_cases hb : b = (i : Int)
 ·subst hb
  rw [if_pos rfl,zB (by simpa using hi)]
  simp
 ·rw [if_neg hb]
  unfold idx
  by_cases h0 : 0 ≤ b
  ·rw [if_pos h0,if_pos h0,List.getElem?_set_ne (by omega)]
  ·rw [if_neg h0,if_neg h0]
theorem zET {bs : List zA} {ls : List Link} {ss ss' : List Say} {i : Nat} (hi : i < bs.length) (v : zA) (b p : Int) : zm ⟨bs.set i v,ls,ss⟩ b p = if b = (i : Int) then idx v.Ps p else zm ⟨bs,ls,ss'⟩ b p := by
 unfold zm
 rw [zAz hi]
 split <;> rfl
def J8 (x : Net) (b p : Int) : Option Bool := (zm x b p).map (·.Up)
theorem zHh {n : Nat} {x : Net} (hx : zy n x) (bs : List zA) (ss : List Say) (hb : bs.length = x.Bs.length)
  (each : ∀ i (hi : i < x.Bs.length) (hi' : i < bs.length),zN n bs[i] = some true ∧ bs[i].wf ∧ bs[i].sz ≤ 1048576 ∧ bs[i].Id = x.Bs[i].Id ∧ bs[i].Ps.length = x.Bs[i].Ps.length ∧ ∀ p (hp : p < bs[i].Ps.length),bs[i].Ps[p].Has = true → x.Ls.any (qC i p) = true)
  (up : ∀ l ∈ x.Ls,J8 ⟨bs,x.Ls,ss⟩ l.A l.P = J8 ⟨bs,x.Ls,ss⟩ l.B l.Q) (s40 : ss.length ≤ 40) (said : ∀ s ∈ ss,zCm n x s ∧ s.wf) : zy n ⟨bs,x.Ls,ss⟩ := by
 obtain ⟨wx,⟨g1,g2,g3,g4⟩,⟨c1,c2,c3,c4,c5⟩,c6⟩ := hx
 have hm : maxLen = 9223372036854775807 := by decide
 refine ⟨⟨⟨by simp only; omega,fun v hv => ?_⟩,wx.2.1,⟨by simp only; omega,fun s hs => (said s hs).2⟩,trivial⟩,⟨by simp only; omega,fun v hv => ?_,g3,by simp only; omega⟩,⟨fun k hk hk' => ?_,by simp only; omega,c3,s40,fun k hk => ?_⟩,fun s hs => (said s hs).1⟩
 ·obtain ⟨i,hi,rfl⟩ := List.getElem_of_mem hv
  have hi : i < bs.length := hi
  exact (each i (by omega) hi).2.1
 ·obtain ⟨i,hi,rfl⟩ := List.getElem_of_mem hv
  have hi : i < bs.length := hi
  exact (each i (by omega) hi).2.2.1
 ·have hk' : k < bs.length := hk'
  obtain ⟨e1,e2,e3,e4,e5,e6⟩ := each k (by omega) hk'
  refine ⟨e1,fun j hj => ?_,fun p hp hh => e6 p hp hh⟩
  have := (c1 k (by omega) (by omega)).2.1 j hj
  have f := (each j (by omega) (by omega)).2.2.2.1
  simp only at this ⊢
  rw [f,e4]; exact this
 ·obtain ⟨⟨d1,p,q,d2,d3,d4⟩,d5⟩ := c5 k hk
  have u := up x.Ls[k] (List.getElem_mem hk)
  have ex : ∀ {b p : Int} {v : Pt},zm x b p = some v → ∃ w,zm ⟨bs,x.Ls,ss⟩ b p = some w := fun {b p v} h => by
   obtain ⟨a,h1,h2⟩ := QR h
   obtain ⟨i0,i1⟩ := Yi h1
   obtain ⟨i,rfl⟩ := Int.eq_ofNat_of_zero_le i0
   have hi : i < x.Bs.length := Int.ofNat_lt.1 i1
   rw [zB hi] at h1
   obtain rfl := Option.some.inj h1
   obtain ⟨j0,j1⟩ := Yi h2
   obtain ⟨j,rfl⟩ := Int.eq_ofNat_of_zero_le j0
   have := (each i hi (by omega)).2.2.2.2.1
   exact ⟨_,by unfold zm; simp only; rw [zB (show i < bs.length by omega),bQ,zB (show j < bs[i].Ps.length by omega)]⟩
  obtain ⟨p',e1⟩ := ex d2
  obtain ⟨q',e2⟩ := ex d3
  refine ⟨⟨d1,p',q',e1,e2,?_⟩,d5⟩
  unfold J8 at u
  rw [e1,e2] at u
  exact Option.some.inj u
theorem zy.up {n : Nat} {x : Net} (hx : zy n x) : ∀ l ∈ x.Ls,J8 x l.A l.P = J8 x l.B l.Q := fun l hl => by
 obtain ⟨k,hk,rfl⟩ := List.getElem_of_mem hl
 obtain ⟨_,p,q,e1,e2,e3⟩ := (hx.2.2.1.2.2.2.2 k hk).1
 unfold J8
 rw [e1,e2]
 simp [e3]
theorem zy.says {n : Nat} {x : Net} (hx : zy n x) : ∀ s ∈ x.Said,zCm n x s ∧ s.wf := fun s hs => ⟨hx.2.2.2 s hs,hx.1.2.2.1.2 s hs⟩
theorem zy.self {n : Nat} {x : Net} (hx : zy n x) : ∀ i (hi : i < x.Bs.length) (hi' : i < x.Bs.length),zN n x.Bs[i] = some true ∧ x.Bs[i].wf ∧ x.Bs[i].sz ≤ 1048576 ∧ x.Bs[i].Id = x.Bs[i].Id ∧ x.Bs[i].Ps.length = x.Bs[i].Ps.length ∧ ∀ p (hp : p < x.Bs[i].Ps.length),x.Bs[i].Ps[p].Has = true → x.Ls.any (qC i p) = true := fun i hi _ =>
 ⟨(hx.br hi).1,(hx.br hi).2.1,by have := (hx.br hi).2.2; omega,rfl,rfl,(hx.2.2.1.1 i hi hi).2.2⟩
theorem zIH {n : Nat} {x : Net} (hx : zy n x) (ss : List Say) (s40 : ss.length ≤ 40) (said : ∀ s ∈ ss,zCm n x s ∧ s.wf) : zy n ⟨x.Bs,x.Ls,ss⟩ :=
 zHh hx x.Bs ss rfl hx.self (fun l hl => hx.up l hl) s40 said
theorem zGP {n : Nat} {x : Net} (hx : zy n x) {i : Nat} (hi : i < x.Bs.length) (v : zA) (ok : zN n v = some true) (wv : v.wf) (sv : v.sz ≤ 1048576) (hid : v.Id = x.Bs[i].Id) (hl : v.Ps.length = x.Bs[i].Ps.length) (has : ∀ p (hp : p < v.Ps.length),v.Ps[p].Has = true → x.Ls.any (qC i p) = true) (hup : ∀ p : Int,(idx v.Ps p).map (·.Up) = (idx x.Bs[i].Ps p).map (·.Up))
  (ss : List Say) (s40 : ss.length ≤ 40) (said : ∀ s ∈ ss,zCm n x s ∧ s.wf) : zy n ⟨x.Bs.set i v,x.Ls,ss⟩ := by
 refine zHh hx _ ss (by simp) (fun j hj hj' => ?_) (fun l hl => ?_) s40 said
 ·rw [List.getElem_set]
  by_cases h : i = j
  ·subst h
   simp only [if_true]
   exact ⟨ok,wv,sv,hid,hl,has⟩
  ·simp only [if_neg h]
   have := hx.self j hj hj
   exact ⟨this.1,this.2.1,this.2.2.1,trivial,trivial,this.2.2.2.2.2⟩
 ·have key : ∀ b p,J8 ⟨x.Bs.set i v,x.Ls,ss⟩ b p = J8 x b p := fun b p => by
   unfold J8
   rw [zET hi v b p (ss' := x.Said)]
   split
   ·rename_i hb
    subst hb
    rw [hup p]
    unfold zm
    rw [zB hi,bQ]
   ·rfl
  rw [key,key]
  exact hx.up l hl
theorem zEn (n : Nat) (x : Net) (b : Int) (p : Int) : Ym n x b p = (idx x.Bs b).bind fun v => (qV n v.Id v.Ps p) := by
 unfold Ym
 cases idx x.Bs b with
 | none => rfl
 | some v =>
  simp only [bQ,zDK]
  cases qV n v.Id v.Ps p <;> rfl
theorem zDD (n : Nat) (x : Net) {k : Nat} (hk : k < x.Ls.length) (back : Bool) : JK n x k back = bif back then (idx x.Bs x.Ls[k].B).bind fun v => qV n v.Id v.Ps x.Ls[k].Q else (idx x.Bs x.Ls[k].A).bind fun v => qV n v.Id v.Ps x.Ls[k].P := by
 unfold JK
 rw [zB hk,bQ]
 cases back with
 | true =>
  simp only [cQ]
  cases idx x.Bs x.Ls[k].B with
  | none => rfl
  | some v => simp only [bQ]; cases qV n v.Id v.Ps x.Ls[k].Q <;> rfl
 | false =>
  simp only [fQ]
  cases idx x.Bs x.Ls[k].A with
  | none => rfl
  | some v => simp only [bQ]; cases qV n v.Id v.Ps x.Ls[k].P <;> rfl
theorem zCr {α : Type} {xs : List α} {b : Int} {v : α} (h : idx xs b = some v) : ∃ i : Nat,b = i ∧ ∃ hi : i < xs.length,xs[i] = v := by
 obtain ⟨i0,i1⟩ := Yi h
 obtain ⟨i,rfl⟩ := Int.eq_ofNat_of_zero_le i0
 have hi : i < xs.length := Int.ofNat_lt.1 i1
 rw [zB hi] at h
 exact ⟨i,rfl,hi,Option.some.inj h⟩
theorem zy.ends {n : Nat} {x : Net} (hx : zy n x) {k : Nat} (hk : k < x.Ls.length) : ∃ (a p b q : Nat) (ha : a < x.Bs.length) (hb : b < x.Bs.length),x.Ls[k].A = a ∧ x.Ls[k].P = p ∧ x.Ls[k].B = b ∧ x.Ls[k].Q = q ∧ a ≠ b ∧ p < x.Bs[a].Ps.length ∧ q < x.Bs[b].Ps.length ∧ p < 6 ∧ q < 6 := by
 obtain ⟨hne,p,q,e1,e2,_⟩ := (hx.2.2.1.2.2.2.2 k hk).1
 obtain ⟨v,h1,h2⟩ := QR e1
 obtain ⟨w,h3,h4⟩ := QR e2
 obtain ⟨a,ea,ha,rfl⟩ := zCr h1
 obtain ⟨p',ep,hp,_⟩ := zCr h2
 obtain ⟨b,eb,hb,rfl⟩ := zCr h3
 obtain ⟨q',eq,hq,_⟩ := zCr h4
 have := (zt n _ (by have := (hx.br ha).2.2; have hs : x.Bs[a].Name.size + x.Bs[a].Ps.length + x.Bs[a].F.length + x.Bs[a].V.sz = x.Bs[a].sz := rfl; omega) (hx.br ha).1).2.1
 have := (zt n _ (by have := (hx.br hb).2.2; have hs : x.Bs[b].Name.size + x.Bs[b].Ps.length + x.Bs[b].F.length + x.Bs[b].V.sz = x.Bs[b].sz := rfl; omega) (hx.br hb).1).2.1
 exact ⟨a,p',b,q',ha,hb,ea,ep,eb,eq,fun h => hne (by rw [ea,eb,h]),hp,hq,by omega,by omega⟩
theorem zy.say {n : Nat} {x : Net} (hn : 1048700 < n) (hx : zy n x) {i : Nat} (hi : i < x.Bs.length) (p : Nat) (hp : p < 6) : ∃ v,qV n x.Bs[i].Id x.Bs[i].Ps p = some v ∧ zw n v = some true ∧ v.wf := by
 have hs : x.Bs[i].Name.size + x.Bs[i].Ps.length + x.Bs[i].F.length + x.Bs[i].V.sz = x.Bs[i].sz := rfl
 have h40 := (hx.br hi).2.2
 obtain ⟨p1,p2,p3,p4,_⟩ := zt n _ (by omega) (hx.br hi).1
 exact zHI n _ _ p p3 p4 (by omega) (by omega) (by omega) (by omega)
theorem zy.link {n : Nat} {x : Net} (hx : zy n x) (ss : List Say) (k : Int) : ∃ b,qp n ⟨x.Bs,x.Ls,ss⟩ k = some b ∧ za n ⟨x.Bs,x.Ls,ss⟩ k = some b := by
 have h := hx.sz
 obtain ⟨b,e1,e2⟩ := zFn n x k hx.1 (by omega)
 exact ⟨b,e1,e2⟩
theorem zHF {n : Nat} (hn : 1048700 < n) {x : Net} (hx : zy n x) (b : Int) : ∀ (m k : Nat) (ss : List Say),k ≤ x.Ls.length → x.Ls.length < m + k → ss.length ≤ 40 → (∀ s ∈ ss,zCm n x s ∧ s.wf) → ∃ zs,qK n m x b k ss = some (.inl zs) ∧ qz n m x b k ss = some (.inl zs) ∧ zs.length ≤ 40 ∧ ∀ s ∈ zs,zCm n x s ∧ s.wf
 | 0,k,ss,h1,h2,h3,h4 => by omega
 | m + 1,k,ss,h1,h2,h3,h4 => by
  rw [qK,qz]
  by_cases hk : k < x.Ls.length
  ·have h9 := hx.2.2.1.2.2.1
   have ih := fun ss h3 h4 => zHF hn hx b m (k + 1) ss (by omega) (by omega) h3 h4
   obtain ⟨u,u1,u2⟩ := hx.link ss k
   obtain ⟨a,p,c,q,ha,hc,ea,ep,ec,eq,hac,hp,hq,hp6,hq6⟩ := hx.ends hk
   rw [qH hk,cQ,cQ,zB hk,bQ,u1,u2,bQ,bQ,vQ k]
   cases u with
   | false => exact ih ss h3 h4
   | true =>
    simp only [nQ,fQ]
    by_cases h40 : (ss.length : Int) ≥ 40
    ·rw [tQ h40,cQ,cQ]; exact ih ss h3 h4
    ·rw [dQ h40,fQ,fQ,bQ]
     have hg : ∀ s : Say,decide (ss.length + [s].length ≤ 268435456) = true := fun s => tQ (by simp; omega)
     have one : ∀ (bk : Bool) (v : Vec),zw n v = some true → v.wf → ∀ s ∈ ss ++ [(⟨k,bk,v⟩ : Say)],zCm n x s ∧ s.wf := fun bk v hv wv s hs => by
      rcases List.mem_append.1 hs with hs | hs
      ·exact h4 s hs
      ·rw [List.mem_singleton] at hs
       subst hs
       exact ⟨⟨⟨by simp only; omega,by simp only; omega⟩,hv⟩,iQ (z := (k : Int)),wv.1,wv.2.1,wv.2.2.1,wv.2.2.2.1,wv.2.2.2.2.1,trivial⟩
     by_cases hA : x.Ls[k].A = b
     ·obtain ⟨v,v1,v2,v3⟩ := hx.say hn ha p hp6
      have hB : (x.Ls[k].B == b) = false := by
       rw [beq_eq_false_iff_ne]
       intro h
       rw [← hA,ea,ec] at h
       omega
      rw [show (x.Ls[k].A == b) = true from by simpa using hA,cQ,cQ,zDD n ⟨x.Bs,x.Ls,ss⟩ hk false,fQ,zEn]
      simp only [← hA,ea,ep,zB ha,bQ,v1,hg,cQ,Zv,zB hk,hA,hB,fQ,vQ k]
      rw [ea] at hA
      have hB' : (x.Ls[k].B == (a : Int)) = false := by rw [beq_eq_false_iff_ne,ec]; omega
      simp only [hB',hA,hB,fQ,nQ]
      exact ih _ (by simp; omega) (one false v v2 v3)
     ·rw [show (x.Ls[k].A == b) = false from by simpa using hA,fQ,fQ]
      simp only [Zv,zB hk,bQ,vQ k]
      by_cases hB : x.Ls[k].B = b
      ·obtain ⟨v,v1,v2,v3⟩ := hx.say hn hc q hq6
       rw [show (x.Ls[k].B == b) = true from by simpa using hB,cQ,cQ,zDD n ⟨x.Bs,x.Ls,ss⟩ hk true,cQ,zEn]
       simp only [← hB,ec,eq,zB hc,bQ,v1,hg,cQ]
       rw [ec] at hB
       rw [hB]
       exact ih _ (by simp; omega) (one true v v2 v3)
      ·rw [show (x.Ls[k].B == b) = false from by simpa using hB,fQ,fQ]
       exact ih ss h3 h4
  ·obtain rfl : k = x.Ls.length := by omega
   rw [zz]
   exact ⟨ss,rfl,rfl,h3,h4⟩
theorem zKY {n : Nat} (hn : 1048700 < n) {x : Net} (hx : zy n x) (b : Int) : ∃ y,Yv n x b = some y ∧ zA2 n x b = some y ∧ zy n y ∧ y.Bs = x.Bs ∧ y.Ls = x.Ls := by
 have h9 := hx.2.2.1.2.2.1
 obtain ⟨zs,e1,e2,e3,e4⟩ := zHF hn hx b n 0 x.Said (by omega) (by omega) hx.2.2.1.2.2.2.1 hx.says
 refine ⟨⟨x.Bs,x.Ls,zs⟩,?_,?_,zIH hx zs e3 e4,rfl,rfl⟩
 ·unfold Yv; rw [show qK n n x b 0 x.Said = _ from e1]; rfl
 ·unfold zA2; rw [show qz n n x b 0 x.Said = _ from e2]; rfl
theorem zKH (ps : List Pt) (k : Nat) (hk : k < ps.length) (c : Int) (h : Bool) (v : Vec) (p : Int) : (idx (ps.set k ⟨ps[k].Up,c,h,v⟩) p).map (·.Up) = (idx ps p).map (·.Up) := by
 rw [zAz hk]
 split
 ·rename_i e
  subst e
  rw [zB hk]; rfl
 ·rfl
theorem zIO {n : Nat} (hn : 1048700 < n) {x : Net} (hx : zy n x) {i p : Nat} (hi : i < x.Bs.length) (hp : p < x.Bs[i].Ps.length) (hup : x.Bs[i].Ps[p].Up = true) (hend : x.Ls.any (qC i p) = true) (v : Vec) (hv : zw n v = some true) : ∃ y,QB n x.Bs[i] p v = some y ∧ Yb n x.Bs[i] p v = some y ∧ zy n ⟨x.Bs.set i y,x.Ls,x.Said⟩ ∧ y.Id = x.Bs[i].Id ∧ y.Ps = x.Bs[i].Ps.set p ⟨true,x.Bs[i].Ps[p].Co,true,v⟩ := by
 obtain ⟨b1,b2,b3⟩ := hx.br hi
 obtain ⟨y,e1,e2,e3,e4,e5,e6,e7,_⟩ := zGW n x.Bs[i] p v b2 (by omega) (by omega) b1 hp hup hv
 refine ⟨y,e1,e2,zGP hx hi y e3 e4 (by omega) e6 (by rw [e7]; simp) (fun j hj hh => ?_) (fun j => ?_) x.Said hx.2.2.1.2.2.2.1 hx.says,e6,e7⟩
 ·by_cases hjp : p = j
  ·subst hjp; exact hend
  ·have hj' : j < x.Bs[i].Ps.length := by rw [e7] at hj; simpa using hj
   have hg : y.Ps[j] = x.Bs[i].Ps[j] := by
    simp only [e7]
    exact List.getElem_set_ne hjp _
   rw [hg] at hh
   exact (hx.2.2.1.1 i hi hi).2.2 j hj' hh
 ·rw [e7,← zKH x.Bs[i].Ps p hp x.Bs[i].Ps[p].Co true v j,hup]
theorem zLE {n : Nat} (hn : 1048700 < n) {x : Net} (hx : zy n x) {i : Nat} (hi : i < x.Bs.length) : ∃ y,zAG n x.Bs[i] = some y ∧ zCb n x.Bs[i] = some y ∧ zy n ⟨x.Bs.set i y,x.Ls,x.Said⟩ := by
 obtain ⟨b1,b2,b3⟩ := hx.br hi
 obtain ⟨y,e1,e2,e3,e4,e5,e6,e7,_⟩ := zIZ n x.Bs[i] b2 (by omega) (by omega) b1
 refine ⟨y,e1,e2,zGP hx hi y e3 e4 (by omega) e6 (by rw [e7]) (fun j hj hh => ?_) (fun j => by rw [e7]) x.Said hx.2.2.1.2.2.2.1 hx.says⟩
 have hj' : j < x.Bs[i].Ps.length := by rw [e7] at hj; exact hj
 have hg : y.Ps[j] = x.Bs[i].Ps[j] := by congr 1
 rw [hg] at hh
 exact (hx.2.2.1.1 i hi hi).2.2 j hj' hh
def Y7 (ss : List Say) (i : Nat) : List Say := ss.take i ++ ss.drop (i + 1)
theorem zJr (ss : List Say) (i : Nat) (hi : i < ss.length) (h40 : ss.length ≤ 40) : (([] : List Say) ++ ((ss.drop ((0 : Int)).toNat).take (((i : Int)).toNat - ((0 : Int)).toNat))) ++ ((ss.drop ((((i + 1 : Nat) : Int) : Int)).toNat).take ((((ss.length : Int) : Int)).toNat - ((((i + 1 : Nat) : Int)) : Int).toNat)) = Y7 ss i := by
 unfold Y7
 rw [List.nil_append,Int.toNat_natCast,Int.toNat_natCast,Int.toNat_natCast,show (0 : Int).toNat = 0 from rfl,Nat.sub_zero,List.drop_zero,show (ss.drop (i + 1)).take (ss.length - (i + 1)) = ss.drop (i + 1) from List.take_of_length_le (by rw [List.length_drop]; omega)]
theorem zLP {ss : List Say} {i : Nat} : ∀ s ∈ Y7 ss i,s ∈ ss := fun s hs => by
 rcases List.mem_append.1 hs with h | h
 ·exact List.mem_of_mem_take h
 ·exact List.mem_of_mem_drop h
theorem zLO {ss : List Say} {i : Nat} (hi : i < ss.length) : (Y7 ss i).length + 1 = ss.length := by
 unfold Y7
 rw [List.length_append,List.length_take,List.length_drop]
 omega
theorem zH8 (ss : List Say) (i : Nat) (hi : i < ss.length) (h40 : ss.length ≤ 40) :
  (decide ((0 : Int) ≤ 0) && (decide ((0 : Int) ≤ (i : Int)) && decide ((i : Int) ≤ (ss.length : Int)))) = true ∧
  (decide ((0 : Int) ≤ ((i + 1 : Nat) : Int)) && (decide (((i + 1 : Nat) : Int) ≤ (ss.length : Int)) && decide ((ss.length : Int) ≤ (ss.length : Int)))) = true ∧
  decide (([] : List Say).length + ((ss.drop ((0 : Int)).toNat).take (((i : Int)).toNat - ((0 : Int)).toNat)).length ≤ 268435456) = true ∧
  decide ((([] : List Say) ++ ((ss.drop ((0 : Int)).toNat).take (((i : Int)).toNat - ((0 : Int)).toNat))).length + ((ss.drop ((((i + 1 : Nat) : Int) : Int)).toNat).take ((((ss.length : Int) : Int)).toNat - ((((i + 1 : Nat) : Int)) : Int).toNat)).length ≤ 268435456) = true := by
 refine ⟨?_,?_,?_,?_⟩
 ·rw [Bool.and_eq_true,Bool.and_eq_true]
  exact ⟨rfl,tQ (by omega),tQ (by omega)⟩
 ·rw [Bool.and_eq_true,Bool.and_eq_true]
  exact ⟨tQ (by omega),tQ (by omega),tQ (by omega)⟩
 ·refine tQ ?_
  rw [List.length_take,List.length_drop,List.length_nil]
  omega
 ·refine tQ ?_
  rw [List.length_append,List.length_take,List.length_drop,List.length_take,List.length_drop,List.length_nil]
  omega
theorem zFt (n : Nat) (x : Net) (z : Event) {i : Nat} (hi : i < x.Said.length) (h40 : x.Said.length ≤ 40) (he : z.At = i) : Yg n x z = bif z.Ki == 2 then (qp n ⟨x.Bs,x.Ls,Y7 x.Said i⟩ x.Said[i].Link).bind fun u => bif u then Yf n ⟨x.Bs,x.Ls,Y7 x.Said i⟩ x.Said[i].Link x.Said[i].Back x.Said[i].V else some ⟨x.Bs,x.Ls,Y7 x.Said i⟩ else some ⟨x.Bs,x.Ls,Y7 x.Said i⟩ := by
 obtain ⟨c1,c2,c3,c4⟩ := zH8 x.Said i hi h40
 unfold Yg
 rw [he,vQ i,zB hi,bQ,c1,c2,c3,c4,zJr x.Said i hi h40]
 simp only [cQ]
 congr 1
 congr 1
 funext u
 cases u with
 | false => rfl
 | true => simp only [cQ]; cases Yf n ⟨x.Bs,x.Ls,Y7 x.Said i⟩ x.Said[i].Link x.Said[i].Back x.Said[i].V <;> rfl
theorem zEM (n : Nat) (x : Net) (b : Bool) {i : Nat} (hi : i < x.Said.length) (h40 : x.Said.length ≤ 40) : JS n x i b = bif !b then some ⟨x.Bs,x.Ls,Y7 x.Said i⟩ else (za n ⟨x.Bs,x.Ls,Y7 x.Said i⟩ x.Said[i].Link).bind fun u => bif !u then some ⟨x.Bs,x.Ls,Y7 x.Said i⟩ else (idx x.Ls x.Said[i].Link).bind fun l => bif x.Said[i].Back then Zq n ⟨x.Bs,x.Ls,Y7 x.Said i⟩ l.A l.P x.Said[i].V else Zq n ⟨x.Bs,x.Ls,Y7 x.Said i⟩ l.B l.Q x.Said[i].V := by
 obtain ⟨c1,c2,c3,c4⟩ := zH8 x.Said i hi h40
 unfold JS
 rw [vQ i,zB hi,bQ,c1,c2,c3,c4,zJr x.Said i hi h40]
 simp only [cQ]
 congr 1
 congr 1
 funext u
 congr 1
 congr 1
 funext l
 congr 1
 ·cases Zq n ⟨x.Bs,x.Ls,Y7 x.Said i⟩ l.A l.P x.Said[i].V <;> rfl
 ·cases Zq n ⟨x.Bs,x.Ls,Y7 x.Said i⟩ l.B l.Q x.Said[i].V <;> rfl
theorem zLD {n : Nat} (hn : 1048700 < n) {x : Net} (hx : zy n x) {i : Nat} (hi : i < x.Said.length) (z : Event) (he : z.At = i) : ∃ y,Yg n x z = some y ∧ JS n x i (z.Ki == 2) = some y ∧ zy n y := by
 have h40 := hx.2.2.1.2.2.2.1
 rw [zFt n x z hi h40 he,zEM n x _ hi h40]
 have hc : zy n ⟨x.Bs,x.Ls,Y7 x.Said i⟩ := zIH hx _ (by have := zLO hi; omega) fun s hs => hx.says s (zLP s hs)
 cases z.Ki == 2 with
 | false => exact ⟨_,rfl,rfl,hc⟩
 | true =>
  simp only [nQ,fQ,cQ]
  obtain ⟨⟨⟨l0,l1⟩,hv⟩,_⟩ := hx.says x.Said[i] (List.getElem_mem hi)
  obtain ⟨k,hk0⟩ := Int.eq_ofNat_of_zero_le l0
  have hk : k < x.Ls.length := by omega
  obtain ⟨u,u1,u2⟩ := hx.link (Y7 x.Said i) x.Said[i].Link
  rw [u1,u2,bQ,bQ]
  cases u with
  | false => exact ⟨_,rfl,rfl,hc⟩
  | true =>
   obtain ⟨a,p,c,q,ha,hcc,ea,ep,ec,eq,hac,hp,hq,hp6,hq6⟩ := hx.ends hk
   obtain ⟨l,va,vb,pp,qq,g1,g2,g3,g4,g5,g6,g7⟩ := zFo n _ _ u1
   rw [hk0] at g1 ⊢
   rw [show idx (⟨x.Bs,x.Ls,Y7 x.Said i⟩ : Net).Ls (k : Int) = _ from zB hk] at g1
   obtain rfl := Option.some.inj g1
   simp only [ea,ep,ec,eq,zB ha,zB hcc] at g2 g3 g5 g6
   obtain rfl := Option.some.inj g2
   obtain rfl := Option.some.inj g5
   rw [zB hp] at g3
   rw [zB hq] at g6
   obtain rfl := Option.some.inj g3
   obtain rfl := Option.some.inj g6
   unfold Yf Zq
   simp only [nQ,fQ,cQ,zB hk,bQ,ea,ep,ec,eq,zB ha,zB hcc,Int.toNat_natCast]
   have hm : x.Ls[k] ∈ x.Ls := List.getElem_mem hk
   cases x.Said[i].Back with
   | true =>
    obtain ⟨y,e1,e2,e3,_⟩ := zIO hn hc ha hp g4 (List.any_eq_true.2 ⟨_,hm,QE.2 (.inl ⟨ea,ep⟩)⟩) _ hv
    simp only [cQ,show QB n x.Bs[a] p x.Said[i].V = _ from e1,show Yb n x.Bs[a] p x.Said[i].V = _ from e2,bQ]
    exact ⟨_,rfl,rfl,e3⟩
   | false =>
    obtain ⟨y,e1,e2,e3,_⟩ := zIO hn hc hcc hq g7 (List.any_eq_true.2 ⟨_,hm,QE.2 (.inr ⟨ec,eq⟩)⟩) _ hv
    simp only [fQ,show QB n x.Bs[c] q x.Said[i].V = _ from e1,show Yb n x.Bs[c] q x.Said[i].V = _ from e2,bQ]
    exact ⟨_,rfl,rfl,e3⟩
theorem zLl {bs : List zA} {ls : List Link} {ss : List Say} {a c : Nat} (ha : a < bs.length) (hc : c < bs.length) (hac : a ≠ c) (v w : zA) (b p : Int) : J8 ⟨(bs.set a v).set c w,ls,ss⟩ b p = if b = (c : Int) then (idx w.Ps p).map (·.Up) else if b = (a : Int) then (idx v.Ps p).map (·.Up) else J8 ⟨bs,ls,ss⟩ b p := by
 unfold J8
 rw [zET (bs := bs.set a v) (ss' := ss) (by simpa using hc),zET (ss' := ss) ha]
 split
 ·rfl
 ·split <;> rfl
theorem zFz (ps : List Pt) (k : Nat) (hk : k < ps.length) (v : Pt) (p : Int) : (idx (ps.set k v) p).map (·.Up) = if p = (k : Int) then some v.Up else (idx ps p).map (·.Up) := by
 rw [zAz hk]
 split <;> rfl
theorem zy.other {n : Nat} {x : Net} (hx : zy n x) {k j : Nat} (hk : k < x.Ls.length) (hj : j < x.Ls.length) (hkj : k ≠ j) : qC x.Ls[k].A x.Ls[k].P x.Ls[j] = false ∧ qC x.Ls[k].B x.Ls[k].Q x.Ls[j] = false := by
 obtain ⟨_,s1,s2⟩ := hx.2.2.1.2.2.2.2 k hk
 have key : ∀ b p : Int,qC b p x.Ls[k] = true → qG (qO b p) x.Ls = 1 → qC b p x.Ls[j] = false := fun b p h1 h2 => by
  rw [Bool.eq_false_iff]
  intro h3
  have c1 := zBX.1 h1
  have c2 := zBX.1 h3
  rcases Nat.lt_or_gt_of_ne hkj with h | h
  ·have := zGe (qO b p) x.Ls k j h hj
   omega
  ·have := zGe (qO b p) x.Ls j k h hk
   omega
 exact ⟨key _ _ (QE.2 (.inl ⟨rfl,rfl⟩)) s1,key _ _ (QE.2 (.inr ⟨rfl,rfl⟩)) s2⟩
theorem zLC {n : Nat} (hn : 1048700 < n) {x : Net} (hx : zy n x) {k : Nat} (hk : k < x.Ls.length) (up : Bool) : ∃ y,Jd n x k up = some y ∧ zBa n x k up = some y ∧ zy n y := by
 obtain ⟨u,u1,u2⟩ := hx.link x.Said k
 unfold Jd zBa
 rw [show qp n x k = _ from u1,show za n x k = _ from u2,bQ,bQ]
 cases hu : u == up with
 | true => exact ⟨x,rfl,rfl,hx⟩
 | false =>
  obtain ⟨a,p,c,q,ha,hc,ea,ep,ec,eq,hac,hp,hq,hp6,hq6⟩ := hx.ends hk
  obtain ⟨ba1,ba2,ba3⟩ := hx.br ha
  obtain ⟨bc1,bc2,bc3⟩ := hx.br hc
  obtain ⟨v,v1,v2,v3,v4,v5,v6,v7,_⟩ := zC8 n x.Bs[a] p up ba2 (by omega) (by omega) ba1 hp
  obtain ⟨w,w1,w2,w3,w4,w5,w6,w7,_⟩ := zC8 n x.Bs[c] q up bc2 (by omega) (by omega) bc1 hq
  have hset : idx (x.Bs.set a v) (c : Int) = some x.Bs[c] := by
   rw [zAz ha,if_neg (by omega),zB hc]
  simp only [fQ,zB hk,bQ,ea,ep,ec,eq,zB ha,v1,v2,Int.toNat_natCast,hset,w1,w2]
  refine ⟨_,rfl,rfl,zHh hx _ _ (by simp) (fun i hi hi' => ?_) (fun l hl => ?_) hx.2.2.1.2.2.2.1 hx.says⟩
  ·have hself := hx.self i hi hi
   have used : ∀ {i' p' : Nat} {ps qs : List Pt} (hi' : i' < x.Bs.length) (hp' : p' < ps.length) (e : qs = ps.set p' ⟨up,ps[p'].Co,false,⟨0,0,0,0,0⟩⟩) (h : ∀ j (hj : j < ps.length),ps[j].Has = true → x.Ls.any (qC i' j) = true),∀ j (hj : j < qs.length),qs[j].Has = true → x.Ls.any (qC i' j) = true := fun {i' p' ps qs} hi' hp' e h j hj hh => by
    subst e
    by_cases hjp : p' = j
    ·subst hjp
     rw [List.getElem_set_self] at hh
     cases hh
    ·rw [List.getElem_set_ne hjp] at hh
     exact h j (by simpa using hj) hh
   by_cases hic : c = i
   ·subst hic
    simp only [List.getElem_set_self]
    exact ⟨w3,w4,by omega,w6,by rw [w7]; simp,used hc hq w7 (hx.self c hc hc).2.2.2.2.2⟩
   ·by_cases hia : a = i
    ·subst hia
     simp only [List.getElem_set_ne hic,List.getElem_set_self]
     exact ⟨v3,v4,by omega,v6,by rw [v7]; simp,used ha hp v7 (hx.self a ha ha).2.2.2.2.2⟩
    ·simp only [List.getElem_set_ne hic,List.getElem_set_ne hia]
     exact ⟨hself.1,hself.2.1,hself.2.2.1,trivial,trivial,hself.2.2.2.2.2⟩
  ·obtain ⟨j,hj,rfl⟩ := List.getElem_of_mem hl
   have hval : ∀ b p' : Int,J8 ⟨(x.Bs.set a v).set c w,x.Ls,x.Said⟩ b p' = if (b = (c : Int) ∧ p' = (q : Int)) ∨ (b = (a : Int) ∧ p' = (p : Int)) then some up else J8 x b p' := fun b p' => by
    rw [zLl ha hc hac,v7,w7,zFz _ _ hq,zFz _ _ hp]
    have hself : ∀ {i : Nat} (hi : i < x.Bs.length),(idx x.Bs[i].Ps p').map (·.Up) = J8 x (i : Int) p' := fun {i} hi => by
     unfold J8 zm
     rw [zB hi,bQ]
    by_cases h1 : b = (c : Int)
    ·subst h1
     have : ¬ ((c : Int) = (a : Int)) := by omega
     by_cases h2 : p' = (q : Int)
     ·simp [h2]
     ·simp only [if_true,if_neg h2,hself hc]
      rw [if_neg (by rintro (h | h) <;> omega)]
    ·by_cases h3 : b = (a : Int)
     ·subst h3
      by_cases h2 : p' = (p : Int)
      ·simp [h2,h1]
      ·simp only [if_neg h1,if_true,if_neg h2,hself ha]
       rw [if_neg (by rintro (h | h) <;> omega)]
     ·rw [if_neg h1,if_neg h3,if_neg (by rintro (h | h) <;> omega)]
   rw [hval,hval]
   by_cases hjk : k = j
   ·subst hjk
    rw [ea,ep,ec,eq,if_pos (.inr ⟨rfl,rfl⟩),if_pos (.inl ⟨rfl,rfl⟩)]
   ·obtain ⟨o1,o2⟩ := hx.other hk hj hjk
    have o1' := fun h => Bool.eq_false_iff.1 o1 (QE.2 h)
    have o2' := fun h => Bool.eq_false_iff.1 o2 (QE.2 h)
    rw [ea,ep] at o1'
    rw [ec,eq] at o2'
    rw [if_neg (fun h => h.elim (fun h => o2' (.inl h)) (fun h => o1' (.inl h))),if_neg (fun h => h.elim (fun h => o2' (.inr h)) (fun h => o1' (.inr h)))]
    exact hx.up _ hl
theorem zGQ {m : Nat} {z : Int} (h : (decide (0 ≤ z) && decide (z ≤ (m : Int) - 1)) = true) : ∃ i : Nat,z = i ∧ i < m := by
 rw [Bool.and_eq_true,decide_eq_true_iff,decide_eq_true_iff] at h
 obtain ⟨i,rfl⟩ := Int.eq_ofNat_of_zero_le h.1
 exact ⟨i,rfl,by omega⟩
theorem zIY {n : Nat} (hn : 1048700 < n) {x : Net} (hx : zy n x) (z : Event) : ∃ y b,zAF n x z = some (y,b) ∧ zGz n x z = some (y,b) ∧ zy n y ∧ (b = false → y = x) := by
 have hs : (x.Bs.length + Jr zA.sz x.Bs) + x.Ls.length + x.Said.length = x.sz := rfl
 have hsz := hx.sz
 obtain ⟨k1,k2⟩ := hx.ok hn
 unfold zAF zGz
 rw [zGb n x (by omega) (by omega),zGL n x (by omega) (by omega),k1,k2]
 simp only [bQ,nQ,fQ]
 have w1 : IntKind.wrap .i64 ((x.Bs.length : Int) - 1) = (x.Bs.length : Int) - 1 := wQ
 have w2 : IntKind.wrap .i64 ((x.Said.length : Int) - 1) = (x.Said.length : Int) - 1 := wQ
 have w3 : IntKind.wrap .i64 ((x.Ls.length : Int) - 1) = (x.Ls.length : Int) - 1 := wQ
 have w4 : IntKind.wrap .i64 ((0 : Int) - 1) = (0 : Int) - 1 := wQ
 have key : ∀ K : Int,z.Ki = K → ∃ y b,(bif (K == 1) then (ZI n x x z true) else (ZI n x x z (K == 6))) = some (y,b) ∧ (bif (K == 1) then (QW n x x z true) else (QW n x x z (K == 6))) = some (y,b) ∧ zy n y ∧ (b = false → y = x) := by
  intro K hK
  by_cases h1 : K = 1
  ·subst h1
   unfold ZI QW ZY
   simp only [show ((1 : Int) == 1) = true from rfl,show ((1 : Int) == 6) = false from rfl,cQ,fQ,qb,zJ,w1,bQ,hK]
   cases h : (decide (0 ≤ z.At) && decide (z.At ≤ (x.Bs.length : Int) - 1)) with
   | false => exact ⟨x,false,rfl,rfl,hx,fun _ => rfl⟩
   | true =>
    obtain ⟨y,e1,e2,e3,_⟩ := zKY hn hx z.At
    simp only [nQ,fQ,e1,e2,bQ]
    exact ⟨y,true,rfl,rfl,e3,fun h => by cases h⟩
  by_cases h6 : K = 6
  ·subst h6
   unfold ZI QW ZY
   simp only [show ((6 : Int) == 1) = false from rfl,show ((6 : Int) == 6) = true from rfl,cQ,fQ,qb,zJ,w1,bQ,hK]
   cases h : (decide (0 ≤ z.At) && decide (z.At ≤ (x.Bs.length : Int) - 1)) with
   | false => exact ⟨x,false,rfl,rfl,hx,fun _ => rfl⟩
   | true =>
    obtain ⟨i,hi,hil⟩ := zGQ h
    obtain ⟨y,e1,e2,e3⟩ := zLE hn hx hil
    simp only [nQ,fQ,hi,zB hil,e1,e2,bQ,Int.toNat_natCast]
    exact ⟨_,true,rfl,rfl,e3,fun h => by cases h⟩
  have b1 : (K == 1) = false := by rw [beq_eq_false_iff_ne]; exact h1
  have b6 : (K == 6) = false := by rw [beq_eq_false_iff_ne]; exact h6
  have said : ∀ c : Bool,(K == 2) = c → (K == 2 || K == 3) = true → ∃ y b,Qq n x x z true = some (y,b) ∧ Jx n x x z true = some (y,b) ∧ zy n y ∧ (b = false → y = x) := fun c hc h23 => by
   unfold Qq Jx ZY
   simp only [cQ,fQ,qb,zJ,w2,bQ,hK,b1,b6]
   cases h : (decide (0 ≤ z.At) && decide (z.At ≤ (x.Said.length : Int) - 1)) with
   | false => exact ⟨x,false,rfl,rfl,hx,fun _ => rfl⟩
   | true =>
    obtain ⟨i,hi,hil⟩ := zGQ h
    obtain ⟨y,e1,e2,e3⟩ := zLD hn hx hil z hi
    rw [hK,hc] at e2
    have h3 : c = false → (K == 3) = true := fun h => by rw [hc,h] at h23; simpa using h23
    unfold zA4
    simp only [nQ,fQ,e1,bQ,hc,hi,hK]
    cases c with
    | true => simp only [cQ,e2,bQ]; exact ⟨y,true,rfl,rfl,e3,fun h => by cases h⟩
    | false => simp only [h3 rfl,cQ,fQ,e2,bQ]; exact ⟨y,true,rfl,rfl,e3,fun h => by cases h⟩
  by_cases h2 : K = 2
  ·obtain ⟨y,b,e1,e2,e3⟩ := said true (by rw [h2]; rfl) (by rw [h2]; rfl)
   unfold ZI QW
   simp only [b1,b6,fQ,hK]
   rw [h2]
   exact ⟨y,b,e1,e2,e3⟩
  have b2 : (K == 2) = false := by rw [beq_eq_false_iff_ne]; exact h2
  by_cases h3 : K = 3
  ·obtain ⟨y,b,e1,e2,e3⟩ := said false b2 (by rw [h3]; rfl)
   unfold ZI QW
   simp only [b1,b6,b2,fQ,hK]
   rw [h3]
   exact ⟨y,b,e1,e2,e3⟩
  have b3 : (K == 3) = false := by rw [beq_eq_false_iff_ne]; exact h3
  have link : (K == 4 || K == 5) = true → ∃ y b,Qr n x x z true = some (y,b) ∧ ZY n x x z (x.Ls.length : Int) = some (y,b) ∧ zy n y ∧ (b = false → y = x) := fun h45 => by
   unfold Qr ZY
   simp only [cQ,fQ,qb,zJ,w3,bQ,hK,b1,b6,b2,b3]
   cases h : (decide (0 ≤ z.At) && decide (z.At ≤ (x.Ls.length : Int) - 1)) with
   | false => exact ⟨x,false,rfl,rfl,hx,fun _ => rfl⟩
   | true =>
    obtain ⟨i,hi,hil⟩ := zGQ h
    obtain ⟨y,e1,e2,e3⟩ := zLC hn hx hil (K == 5)
    unfold zA4
    simp only [nQ,fQ,hK,hi,e1,e2,bQ]
    exact ⟨y,true,rfl,rfl,e3,fun h => by cases h⟩
  unfold ZI QW Qq Jx
  simp only [b1,b6,b2,b3,fQ,hK]
  by_cases h4 : K = 4
  ·rw [h4] at link ⊢
   exact link rfl
  have b4 : (K == 4) = false := by rw [beq_eq_false_iff_ne]; exact h4
  simp only [b4,fQ]
  by_cases h5 : K = 5
  ·rw [h5] at link ⊢
   exact link rfl
  have b5 : (K == 5) = false := by rw [beq_eq_false_iff_ne]; exact h5
  unfold Qr ZY
  simp only [b5,fQ,qb,zJ,w4,bQ,show (decide (0 ≤ z.At) && decide (z.At ≤ (0 : Int) - 1)) = false from by by_cases h : 0 ≤ z.At; { rw [dQ (show ¬ z.At ≤ (0 : Int) - 1 by omega),Bool.and_false] }; { rw [dQ h]; rfl },Bool.not_false,cQ]
  exact ⟨x,false,rfl,rfl,hx,fun _ => rfl⟩
 exact key _ rfl
theorem zHL (n : Nat) (c : Src) (q : Nat) (hq : q ≤ 6) (hn : 100 < n) (h : c.ok) : ∃ (r : Nat) (c' : Src),J5 n c q = some ((List.range q).map (fun k => ((1 + (r + k * 3) % 7 : Nat) : Int)),c') ∧ c'.ok := by
 obtain ⟨v,c',e1,v0,v1,hc⟩ := z6 n c 7 h
 have v1 := v1 (by decide)
 obtain ⟨r,rfl⟩ := Int.eq_ofNat_of_zero_le v0
 have loop : ∀ (m k : Nat),k ≤ q → q < m + k → QO n m ((r : Int),c') q k ((List.range k).map (fun k => ((1 + (r + k * 3) % 7 : Nat) : Int))) = some (.inl ((List.range q).map (fun k => ((1 + (r + k * 3) % 7 : Nat) : Int)))) := fun m => by
  induction m with
  | zero => intro k _ _; omega
  | succ m ih =>
   intro k h1 h2
   rw [QO]
   by_cases hk : k < q
   ·have e3 : IntKind.wrap .i64 ((k : Int) * 3) = ((k * 3 : Nat) : Int) := by rw [wQ]; omega
    have e4 : IntKind.wrap .i64 ((r : Int) + ((k * 3 : Nat) : Int)) = ((r + k * 3 : Nat) : Int) := by rw [wQ]; omega
    have e5 : Int.tmod ((r + k * 3 : Nat) : Int) 7 = (((r + k * 3) % 7 : Nat) : Int) := by rw [Int.tmod_eq_emod_of_nonneg (by omega)]; omega
    have e6 : IntKind.wrap .i64 (1 + (((r + k * 3) % 7 : Nat) : Int)) = ((1 + (r + k * 3) % 7 : Nat) : Int) := by rw [wQ]; omega
    have hd : decide ((7 : Int) ≠ 0) = true := by decide
    simp only [tQ (show (k : Int) < (q : Int) by omega),hd,cQ,e3,e4,e5,e6,vQ k]
    rw [tQ (by simp; omega),cQ]
    have := ih (k + 1) (by omega) (by omega)
    rw [List.range_succ,List.map_append,List.map_singleton] at this
    exact this
   ·obtain rfl : k = q := by omega
    rw [dQ (by omega)]; rfl
 unfold J5
 rw [e1,bQ,show QO n n ((r : Int),c') q 0 [] = _ from loop n 0 (by omega) (by omega)]
 exact ⟨r,c',rfl,hc⟩
def LnkP (q p : Nat) (l : Link) : Prop := ∃ a b x y : Nat,l = ⟨a,x,b,y⟩ ∧ a < q ∧ b < q ∧ x < p ∧ y < p ∧ a ≠ b
def zDa (q p : Nat) (ls : List Link) : Prop := ls.length ≤ 9 ∧ (∀ l ∈ ls,LnkP q p l) ∧ ∀ b x : Int,qG (qO b x) ls ≤ 1
theorem zDa.add {q p : Nat} {ls : List Link} (h : zDa q p ls) (h9 : ls.length < 9) {a b x y : Nat} (ha : a < q) (hb : b < q) (hx : x < p) (hy : y < p) (hab : a ≠ b) (u1 : qG (qO a x) ls = 0) (u2 : qG (qO b y) ls = 0) : zDa q p (ls ++ [⟨a,x,b,y⟩]) := by
 refine ⟨by simp; omega,fun l hl => ?_,fun c z => ?_⟩
 ·rcases List.mem_append.1 hl with hl | hl
  ·exact h.2.1 l hl
  ·rw [List.mem_singleton] at hl
   exact ⟨a,b,x,y,hl,ha,hb,hx,hy,hab⟩
 ·have h1 := h.2.2 c z
  have h2 : qG (qO c z) [(⟨a,x,b,y⟩ : Link)] = qO c z ⟨a,x,b,y⟩ := by simp [qG]
  have b1 : ∀ t : Bool,(bif t then 1 else 0 : Nat) ≤ 1 := fun t => by cases t <;> decide
  rw [zBp,h2,show qO c z (⟨a,x,b,y⟩ : Link) = (bif (a : Int) == c && (x : Int) == z then 1 else 0) + (bif (b : Int) == c && (y : Int) == z then 1 else 0) from rfl]
  by_cases e1 : (a : Int) = c ∧ (x : Int) = z
  ·obtain ⟨rfl,rfl⟩ := e1
   have e2 : ((b : Int) == (a : Int)) = false := by rw [beq_eq_false_iff_ne]; omega
   rw [e2,Bool.false_and,fQ,u1]
   have := b1 ((a : Int) == (a : Int) && (x : Int) == (x : Int))
   omega
  ·have e1' : ((a : Int) == c && (x : Int) == z) = false := by
    rw [Bool.eq_false_iff]
    intro hh
    rw [Bool.and_eq_true,beq_iff_eq,beq_iff_eq] at hh
    exact e1 hh
   rw [e1',fQ]
   by_cases e3 : (b : Int) = c ∧ (y : Int) = z
   ·obtain ⟨rfl,rfl⟩ := e3
    rw [u2]
    have := b1 ((b : Int) == (b : Int) && (y : Int) == (y : Int))
    omega
   ·have e3' : ((b : Int) == c && (y : Int) == z) = false := by
     rw [Bool.eq_false_iff]
     intro hh
     rw [Bool.and_eq_true,beq_iff_eq,beq_iff_eq] at hh
     exact e3 hh
    rw [e3',fQ]
    omega
theorem zBR (n p : Nat) (z : Int) (ls : List Link) (hp : p ≤ 1000) (h : ls.length ≤ 9) (hn : 1000 < n) : ∀ (m k : Nat),k < p → p < m + k → ∃ v : Nat,v < p ∧ QK n m p z ls k = some (.inl v)
 | 0,k,h1,h2 => by omega
 | m + 1,k,h1,h2 => by
  rw [QK,Q9 n ⟨[],ls,[]⟩ z k (by simp only; omega) (by simp only; omega),bQ,vQ k]
  by_cases hu : (qG (qO z k) ls : Int) > 0
  ·rw [tQ hu,cQ]
   by_cases hk : k + 1 < p
   ·rw [tQ (by omega),cQ]
    exact zBR n p z ls hp h hn m (k + 1) hk (by omega)
   ·rw [dQ (by omega),fQ]
    exact ⟨k,h1,rfl⟩
  ·rw [dQ hu,fQ]
   exact ⟨k,h1,rfl⟩
theorem zBQ (n p : Nat) (z : Int) (ls : List Link) (hp : p ≤ 1000) (h : ls.length ≤ 9) (hn : 1000 < n) : ∀ (m k : Nat),k < p → p < m + k → ∃ v : Nat,v < p ∧ QJ n m p z ls k = some (.inl v)
 | 0,k,h1,h2 => by omega
 | m + 1,k,h1,h2 => by
  rw [QJ,Q9 n ⟨[],ls,[]⟩ z k (by simp only; omega) (by simp only; omega),bQ,vQ k]
  by_cases hu : (qG (qO z k) ls : Int) > 0
  ·rw [tQ hu,cQ]
   by_cases hk : k + 1 < p
   ·rw [tQ (by omega),cQ]
    exact zBQ n p z ls hp h hn m (k + 1) hk (by omega)
   ·rw [dQ (by omega),fQ]
    exact ⟨k,h1,rfl⟩
  ·rw [dQ hu,fQ]
   exact ⟨k,h1,rfl⟩
theorem zEy {n : Nat} (hn : 1000 < n) {q p : Nat} (hp0 : 1 ≤ p) (hp : p ≤ 1000) (f : Int × List Int × Int × Int × List Link → Option ((List Int × Int × Int × List Link) ⊕ (List Link × Src))) (k : Nat) (hk : k ≤ 1000) (ls : List Link) (h : zDa q p ls) (b a : Nat) (hb : b < q) (ha : a < q) (c : Src) (hc : c.ok) :
  ∃ (c' : Src) (zs : List Link),c'.ok ∧ zDa q p zs ∧ ZG n f p k ls b a c.b c.i c.h = f (((k + 1 : Nat) : Int),c'.b,c'.i,c'.h,zs) := by
 obtain ⟨v1,c1,e1,a1,b1,g1⟩ := z6 n c p hc
 obtain ⟨v2,c2,e2,a2,b2,g2⟩ := z6 n c1 p g1
 have b1 := b1 (by omega)
 have b2 := b2 (by omega)
 obtain ⟨v1,rfl⟩ := Int.eq_ofNat_of_zero_le a1
 obtain ⟨v2,rfl⟩ := Int.eq_ofNat_of_zero_le a2
 obtain ⟨x,hx,e3⟩ := zBR n p a ls hp h.1 hn n v1 (by omega) (by omega)
 obtain ⟨y,hy,e4⟩ := zBQ n p b ls hp h.1 hn n v2 (by omega) (by omega)
 unfold ZG YU
 rw [show ze n ⟨c.b,c.i,c.h⟩ p = _ from e1,bQ,e2,bQ]
 simp only [e3,bQ,e4]
 unfold YV Zb
 simp only [Q9 n ⟨[],ls,[]⟩ _ _ (show ls.length ≤ 1048600 by have := h.1; omega) (show ls.length < n by have := h.1; omega),bQ,vQ k]
 by_cases hab : (a : Int) = (b : Int)
 ·rw [show ((a : Int) != (b : Int)) = false from by simp [hab],fQ]
  exact ⟨c2,ls,g2,h,rfl⟩
 rw [show ((a : Int) != (b : Int)) = true from by simpa using hab,cQ]
 by_cases u1 : qG (qO a x) ls = 0
 ·rw [u1,show (((0 : Nat) : Int) == 0) = true from rfl,cQ]
  by_cases u2 : qG (qO b y) ls = 0
  ·rw [u2,show (((0 : Nat) : Int) == 0) = true from rfl,cQ]
   by_cases h9 : (ls.length : Int) < 9
   ·rw [tQ h9,cQ,tQ (by simp; omega),cQ]
    exact ⟨c2,_,g2,h.add (by omega) ha hb hx hy (by omega) u1 u2,rfl⟩
   ·rw [dQ h9,fQ]
    exact ⟨c2,ls,g2,h,rfl⟩
  ·rw [show (((qG (qO b y) ls : Nat) : Int) == 0) = false from by rw [beq_eq_false_iff_ne]; omega]
   exact ⟨c2,ls,g2,h,rfl⟩
 ·rw [show (((qG (qO a x) ls : Nat) : Int) == 0) = false from by rw [beq_eq_false_iff_ne]; omega]
  exact ⟨c2,ls,g2,h,rfl⟩
theorem zBP {n : Nat} (hn : 1000 < n) {q p : Nat} (hp0 : 1 ≤ p) (hp : p ≤ 1000) (hq0 : 1 ≤ q) (hq : q ≤ 6) : ∀ (m k : Nat) (c : Src) (ls : List Link),k ≤ 10 → 10 < m + k → c.ok → zDa q p ls → ∃ (c' : Src) (zs : List Link),c'.ok ∧ zDa q p zs ∧ zY n m q p k c.b c.i c.h ls = some (.inl (c'.b,c'.i,c'.h,zs))
 | 0,k,c,ls,h1,h2,hc,h => by omega
 | m + 1,k,c,ls,h1,h2,hc,h => by
  obtain ⟨v1,c1,e1,a1,b1,g1⟩ := z6 n c 4 hc
  have b1 := b1 (by decide)
  obtain ⟨v1,rfl⟩ := Int.eq_ofNat_of_zero_le a1
  rw [zY,show ze n ⟨c.b,c.i,c.h⟩ 4 = _ from e1,bQ,show IntKind.wrap .i64 ((q : Int) + (v1 : Int)) = ((q + v1 : Nat) : Int) from by rw [wQ]; omega]
  by_cases hk : k < q + v1
  ·obtain ⟨v2,c2,e2,a2,b2,g2⟩ := z6 n c1 q g1
   obtain ⟨v3,c3,e3,a3,b3,g3⟩ := z6 n c2 2 g2
   have b2 := b2 (by omega)
   have b3 := b3 (by decide)
   obtain ⟨v2,rfl⟩ := Int.eq_ofNat_of_zero_le a2
   obtain ⟨v3,rfl⟩ := Int.eq_ofNat_of_zero_le a3
   have t1 : Int.tmod (IntKind.wrap .i64 (((v2 + 1 : Nat) : Int) + (v3 : Int))) (q : Int) = (((v2 + 1 + v3) % q : Nat) : Int) := by
    rw [wQ,Int.tmod_eq_emod_of_nonneg (by omega),← Int.natCast_add,← Int.natCast_emod]
   have t2 : (v2 + 1 + v3) % q < q := Nat.mod_lt _ (by omega)
   rw [tQ (show (k : Int) < ((q + v1 : Nat) : Int) by omega),cQ,e2,bQ,e3,bQ,tQ (show (q : Int) ≠ 0 by omega),cQ,show IntKind.wrap .i64 ((q : Int) - 1) = (q : Int) - 1 from wQ,vQ v2,vQ k,t1]
   have go : ∀ (b a : Nat) (c' : Src),b < q → a < q → c'.ok → ∃ (c'' : Src) (zs : List Link),c''.ok ∧ zDa q p zs ∧ ZG n (fun v => zY n m q p v.1 v.2.1 v.2.2.1 v.2.2.2.1 v.2.2.2.2) p k ls b a c'.b c'.i c'.h = some (.inl (c''.b,c''.i,c''.h,zs)) := fun b a c' hb ha hc' => by
    obtain ⟨c4,zs,g4,l4,e4⟩ := zEy hn hp0 hp (fun v => zY n m q p v.1 v.2.1 v.2.2.1 v.2.2.2.1 v.2.2.2.2) k (by omega) ls h b a hb ha c' hc'
    rw [e4]
    exact zBP hn hp0 hp hq0 hq m (k + 1) c4 zs (by omega) (by omega) g4 l4
   by_cases hkq : (k : Int) < (q : Int) - 1
   ·obtain ⟨v4,c4,e4,g4⟩ := zDU n c3 5 g3
    rw [tQ hkq,cQ,e4,bQ]
    cases v4 with
    | false => exact go (k + 1) k c4 (by omega) (by omega) g4
    | true => exact go _ v2 c4 t2 (by omega) g4
   ·rw [dQ hkq,fQ]
    exact go _ v2 c3 t2 (by omega) g3
  ·rw [dQ (by omega),fQ]
   exact ⟨c1,ls,g1,h,rfl⟩
theorem zFr {n : Nat} (hn : 1000 < n) {q p : Nat} (hp0 : 1 ≤ p) (hp : p ≤ 1000) (hq0 : 1 ≤ q) (hq : q ≤ 6) (c : Src) (hc : c.ok) : ∃ (ls : List Link) (c' : Src),JI n c q p = some (ls,c') ∧ zDa q p ls ∧ c'.ok := by
 obtain ⟨c',zs,g,l,e⟩ := zBP hn hp0 hp hq0 hq n 0 c [] (by omega) (by omega) hc ⟨Nat.zero_le _,(fun l hl => by cases hl),fun _ _ => Nat.zero_le _⟩
 unfold JI
 rw [show zY n n q p 0 c.b c.i c.h [] = _ from e]
 exact ⟨zs,c',rfl,l,g⟩
theorem zL3 (n : Nat) (p : Pt) (c : Int) (hc : 1 ≤ c ∧ c ≤ 1000) (h : qE n p = some true) : qE n ⟨p.Up,c,p.Has,p.Hd⟩ = some true := by
 obtain ⟨_,h1,h2⟩ := Yq n p h
 cases hh : p.Has with
 | false => rw [h2 hh]; exact zD6 n c p.Up hc
 | true => rw [(h1 hh).1]; exact zD7 n c p.Hd hc (h1 hh).2
theorem zLL {n : Nat} (hn : 1048700 < n) {x : Net} (hx : zy n x) {i j : Nat} (hi : i < x.Bs.length) (hj : j < x.Bs[i].Ps.length) (c : Int) (hc : 1 ≤ c ∧ c ≤ 1000) : zy n ⟨x.Bs.set i ⟨x.Bs[i].Id,x.Bs[i].Name,x.Bs[i].Ps.set j ⟨x.Bs[i].Ps[j].Up,c,x.Bs[i].Ps[j].Has,x.Bs[i].Ps[j].Hd⟩,x.Bs[i].F,x.Bs[i].V,x.Bs[i].Tk,x.Bs[i].Pa,x.Bs[i].Wo,x.Bs[i].Dr,x.Bs[i].Ve⟩,x.Ls,x.Said⟩ := by
 obtain ⟨b1,b2,b3⟩ := hx.br hi
 have hs : x.Bs[i].Name.size + x.Bs[i].Ps.length + x.Bs[i].F.length + x.Bs[i].V.sz = x.Bs[i].sz := rfl
 obtain ⟨p1,p2,p3,p4,p5,p6,p7,p8,p9,p10,p11,p12,p13⟩ := zt n _ (by omega) b1
 obtain ⟨w1,w2,w3,w4,w5⟩ := b2
 have wj := w3.2 _ (List.getElem_mem hj)
 have hps : ∀ q (hq : q < (x.Bs[i].Ps.set j ⟨x.Bs[i].Ps[j].Up,c,x.Bs[i].Ps[j].Has,x.Bs[i].Ps[j].Hd⟩).length),qE n (x.Bs[i].Ps.set j ⟨x.Bs[i].Ps[j].Up,c,x.Bs[i].Ps[j].Has,x.Bs[i].Ps[j].Hd⟩)[q] = some true := zHm (P := fun q => qE n q = some true) p13 (zL3 n _ c hc (p13 j hj))
 refine zGP hx hi (⟨x.Bs[i].Id,x.Bs[i].Name,x.Bs[i].Ps.set j ⟨x.Bs[i].Ps[j].Up,c,x.Bs[i].Ps[j].Has,x.Bs[i].Ps[j].Hd⟩,x.Bs[i].F,x.Bs[i].V,x.Bs[i].Tk,x.Bs[i].Pa,x.Bs[i].Wo,x.Bs[i].Dr,x.Bs[i].Ve⟩ : zA) (zAP n (⟨x.Bs[i].Id,x.Bs[i].Name,x.Bs[i].Ps.set j ⟨x.Bs[i].Ps[j].Up,c,x.Bs[i].Ps[j].Has,x.Bs[i].Ps[j].Hd⟩,x.Bs[i].F,x.Bs[i].V,x.Bs[i].Tk,x.Bs[i].Pa,x.Bs[i].Wo,x.Bs[i].Dr,x.Bs[i].Ve⟩ : zA) (by simp only [List.length_set]; omega) (by simp only [List.length_set]; exact p1) (by simp only [List.length_set]; exact p2) p3 p4 p5 p6 (by simp only [List.length_set]; exact p7) p8 p9 p10 p11 p12 hps) ⟨w1,w2,zEP w3 ⟨iQ (z := c),wj.2⟩,w4,w5⟩ ?_ rfl (by simp) (fun q hq hh => ?_) (fun q => ?_) x.Said hx.2.2.1.2.2.2.1 hx.says
 ·show x.Bs[i].Name.size + (x.Bs[i].Ps.set j _).length + x.Bs[i].F.length + x.Bs[i].V.sz ≤ 1048576
  rw [List.length_set]; omega
 ·have hq' : q < x.Bs[i].Ps.length := by simpa using hq
  refine (hx.2.2.1.1 i hi hi).2.2 q hq' ?_
  by_cases hjq : j = q
  ·subst hjq
   simpa using hh
  ·simp only [List.getElem_set_ne hjq] at hh
   exact hh
 ·simp only
  rw [zAz hj]
  split
  ·rename_i e
   subst e
   rw [zB hj]; rfl
  ·rfl
theorem zCF {n : Nat} (hn : 1048700 < n) {ls : List Link} {ss : List Say} {i : Nat} : ∀ (m k : Nat) (bs : List zA) (c : Src),zy n ⟨bs,ls,ss⟩ → c.ok → ∀ (hi : i < bs.length),k ≤ bs[i].Ps.length → bs[i].Ps.length < m + k → ∃ (zs : List zA) (c' : Src),zy n ⟨zs,ls,ss⟩ ∧ zs.length = bs.length ∧ c'.ok ∧ Zy n m i k bs c.b c.i c.h = some (.inl (zs,c'.b,c'.i,c'.h))
 | 0,k,bs,c,hx,hc,hi,h1,h2 => by omega
 | m + 1,k,bs,c,hx,hc,hi,h1,h2 => by
  have h40 := (hx.br hi).2.2
  have hs : bs[i].Name.size + bs[i].Ps.length + bs[i].F.length + bs[i].V.sz = bs[i].sz := rfl
  simp only at h40
  rw [Zy,zB hi,bQ]
  by_cases hk : k < bs[i].Ps.length
  ·obtain ⟨v,c',e1,hv,g⟩ := zAK n c [1,1,2,5,20] hc (by decide)
   have hv' : 1 ≤ v ∧ v ≤ 1000 := by
    simp only [List.mem_cons,List.not_mem_nil,or_false] at hv
    omega
   have hx' := zLL hn hx hi hk v hv'
   simp only at hx'
   rw [qH hk,cQ,show Zi n ⟨c.b,c.i,c.h⟩ [1,1,2,5,20] = _ from e1,bQ,zB hk,bQ,vQ k,Int.toNat_natCast,Int.toNat_natCast]
   obtain ⟨zs,c'',z1,z2,z3,z4⟩ := zCF hn m (k + 1) _ c' hx' g (by simpa using hi) (by simp; omega) (by simp; omega)
   exact ⟨zs,c'',z1,by rw [z2]; simp,z3,z4⟩
  ·rw [dQ (by omega),fQ]
   exact ⟨bs,c,hx,rfl,hc,rfl⟩
theorem zCE {n : Nat} (hn : 1048700 < n) {ls : List Link} {ss : List Say} : ∀ (m k : Nat) (bs : List zA) (c : Src),zy n ⟨bs,ls,ss⟩ → c.ok → k ≤ bs.length → bs.length < m + k → ∃ (zs : List zA) (c' : Src),zy n ⟨zs,ls,ss⟩ ∧ zs.length = bs.length ∧ c'.ok ∧ ZC n m k bs c.b c.i c.h = some (.inl (zs,c'.b,c'.i,c'.h))
 | 0,k,bs,c,hx,hc,h1,h2 => by omega
 | m + 1,k,bs,c,hx,hc,h1,h2 => by
  have h6 := hx.2.2.1.2.1.2
  simp only at h6
  rw [ZC]
  by_cases hk : k < bs.length
  ·have h40 := (hx.br hk).2.2
   have hs : bs[k].Name.size + bs[k].Ps.length + bs[k].F.length + bs[k].V.sz = bs[k].sz := rfl
   simp only at h40
   obtain ⟨ys,c',y1,y2,y3,y4⟩ := zCF hn n 0 bs c hx hc hk (by omega) (by omega)
   rw [qH hk,cQ,show Zy n n k 0 bs c.b c.i c.h = _ from y4]
   simp only [bQ,Yt,vQ k]
   obtain ⟨zs,c'',z1,z2,z3,z4⟩ := zCE hn m (k + 1) ys c' y1 y3 (by omega) (by omega)
   exact ⟨zs,c'',z1,by omega,z3,z4⟩
  ·obtain rfl : k = bs.length := by omega
   rw [zz]
   exact ⟨bs,c,hx,rfl,hc,rfl⟩
theorem zFs (n : Nat) (c : Src) (x : Net) (hc : c.ok) : ∃ (z : Event) (c' : Src),YI n c x = some (z,c') ∧ c'.ok := by
 have j1 : ∀ (y : Bool) (c : Src),c.ok → ∃ (z : Event) (c' : Src),QL n x y c.b c.i c.h = some (z,c') ∧ c'.ok := fun y c hc => by
  unfold QL
  cases y with
  | true =>
   obtain ⟨v,c1,e1,_,g1⟩ := zAK n c [2,2,2,2,3] hc (by decide)
   obtain ⟨w,c2,e2,_,_,g2⟩ := z6 n c1 (x.Said.length : Int) g1
   rw [cQ,show Zi n ⟨c.b,c.i,c.h⟩ [2,2,2,2,3] = _ from e1,bQ,e2]
   exact ⟨_,c2,rfl,g2⟩
  | false =>
   obtain ⟨v,c1,e1,_,g1⟩ := zAK n c [1,1,1,1,4,5,6] hc (by decide)
   rw [fQ,show Zi n ⟨c.b,c.i,c.h⟩ [1,1,1,1,4,5,6] = _ from e1,bQ]
   have j2 : ∀ t : Bool,∃ (z : Event) (c' : Src),QM n (v,c1) x t = some (z,c') ∧ c'.ok := fun t => by
    unfold QM
    obtain ⟨w,c2,e2,_,_,g2⟩ := z6 n c1 (x.Ls.length : Int) g1
    obtain ⟨w',c3,e3,_,_,g3⟩ := z6 n c1 (x.Bs.length : Int) g1
    simp only [e2,e3,bQ]
    cases t with
    | true => cases ((x.Ls.length : Int) == 0) <;> exact ⟨_,_,rfl,by assumption⟩
    | false => cases ((x.Bs.length : Int) == 0) <;> exact ⟨_,_,rfl,by assumption⟩
   cases ((v,c1).1 == 4) with
   | true => exact j2 true
   | false => exact j2 _
 unfold YI
 cases decide ((x.Said.length : Int) > 0) with
 | true =>
  obtain ⟨v,c1,e1,g1⟩ := zDU n c 2 hc
  rw [cQ,e1,bQ]
  exact j1 v c1 g1
 | false => exact j1 false c hc
theorem zCD {n : Nat} (hn : 1048700 < n) : ∀ (m k : Nat) (x : Net) (c : Src),zy n x → c.ok → k < m → k ≤ 1000 → ∃ (y : Net) (c' : Src),zy n y ∧ c'.ok ∧ Zx n m k c.b c.i c.h x.Bs x.Ls x.Said = some (.inl (c'.b,c'.i,c'.h,y.Bs,y.Ls,y.Said))
 | 0,k,x,c,hx,hc,h,h' => by omega
 | m + 1,k,x,c,hx,hc,h,h' => by
  rw [Zx]
  by_cases hk : (k : Int) > 0
  ·obtain ⟨z,c1,e1,g1⟩ := zFs n c x hc
   obtain ⟨y,b,e2,_,e3,_⟩ := zIY hn hx z
   rw [tQ hk,cQ,show YI n ⟨c.b,c.i,c.h⟩ ⟨x.Bs,x.Ls,x.Said⟩ = _ from e1,bQ,show zAF n ⟨x.Bs,x.Ls,x.Said⟩ z = _ from e2,bQ,show IntKind.wrap .i64 ((k : Int) - 1) = ((k - 1 : Nat) : Int) from by rw [wQ]; omega]
   exact zCD hn m (k - 1) y c1 e3 g1 (by omega) (by omega)
  ·rw [dQ hk,fQ]
   exact ⟨x,c,hx,hc,rfl⟩
theorem zFU (n : Nat) (c : Src) (hc : c.ok) (hn : 100 < n) : ∃ (zs : List Event) (c' : Src),Yu n c 10 = some (zs,c') ∧ zs.length ≤ 10 ∧ c'.ok := by
 have loop : ∀ (m k : Nat) (zs : List Event) (c : Src),c.ok → k < m → zs.length + k ≤ 10 → ∃ (ys : List Event) (c' : Src),ZQ n m k zs c.b c.i c.h = some (.inl (ys,c'.b,c'.i,c'.h)) ∧ ys.length ≤ 10 ∧ c'.ok := fun m => by
  induction m with
  | zero => intro k zs c _ h _; omega
  | succ m ih =>
   intro k zs c hc h h'
   rw [ZQ]
   by_cases hk : (k : Int) > 0
   ·obtain ⟨v,c1,e1,_,g1⟩ := zAK n c [1,1,1,2,2,2,2,3,4,5,6] hc (by decide)
    obtain ⟨w,c2,e2,_,_,g2⟩ := z6 n c1 4 g1
    rw [tQ hk,cQ,show Zi n ⟨c.b,c.i,c.h⟩ [1,1,1,2,2,2,2,3,4,5,6] = _ from e1,bQ,e2,bQ,tQ (by simp; omega),cQ,show IntKind.wrap .i64 ((k : Int) - 1) = ((k - 1 : Nat) : Int) from by rw [wQ]; omega]
    exact ih (k - 1) _ c2 g2 (by omega) (by simp; omega)
   ·rw [dQ hk,fQ]
    exact ⟨zs,c,rfl,by omega,hc⟩
 obtain ⟨v,c1,e1,v0,v1,g1⟩ := z6 n c 10 hc
 have v1 := v1 (by decide)
 obtain ⟨v,rfl⟩ := Int.eq_ofNat_of_zero_le v0
 obtain ⟨ys,c2,e2,e3,e4⟩ := loop n v [] c1 g1 (by omega) (by simp; omega)
 unfold Yu
 rw [e1,bQ,show ZQ n n v [] c1.b c1.i c1.h = _ from e2]
 exact ⟨ys,c2,rfl,e3,e4⟩
theorem zMB (p : Nat) (h1 : 1 ≤ p) (h6 : p ≤ 6) : ∃ vt : zR,zAk 1048800 p = some vt ∧ qW 1048800 vt p = some true ∧ vt.sz ≤ 10 ∧ vt.wf := by
 have wf : ∀ (m : Int) (k : Nat),0 ≤ m → m ≤ 63 → k ≤ 6 → (⟨[⟨1,m,m⟩],List.replicate k 1⟩ : zR).wf := fun m k h0 h1 hk => by
  refine ⟨⟨by simp only [List.length_singleton]; decide,fun r hr => ?_⟩,⟨?_,fun r hr => ?_⟩,trivial⟩
  ·rw [List.mem_singleton] at hr; subst hr
   exact ⟨qR (by simp only; omega) (by simp only; omega),qR (by simp only; omega) (by simp only; omega),qR (by simp only; omega) (by simp only; omega),trivial⟩
  ·have : maxLen = 9223372036854775807 := by decide
   simp only [List.length_replicate]; omega
  ·obtain ⟨_,rfl⟩ := List.mem_replicate.1 hr
   exact qR (by omega) (by omega)
 have hc : p = 1 ∨ p = 2 ∨ p = 3 ∨ p = 4 ∨ p = 5 ∨ p = 6 := by omega
 rcases hc with rfl | rfl | rfl | rfl | rfl | rfl
 ·exact ⟨⟨[⟨1,1,1⟩],List.replicate 1 1⟩,by kernel_rfl,by kernel_rfl,by decide,wf _ _ (by decide) (by decide) (by decide)⟩
 ·exact ⟨⟨[⟨1,3,3⟩],List.replicate 2 1⟩,by kernel_rfl,by kernel_rfl,by decide,wf _ _ (by decide) (by decide) (by decide)⟩
 ·exact ⟨⟨[⟨1,7,7⟩],List.replicate 3 1⟩,by kernel_rfl,by kernel_rfl,by decide,wf _ _ (by decide) (by decide) (by decide)⟩
 ·exact ⟨⟨[⟨1,15,15⟩],List.replicate 4 1⟩,by kernel_rfl,by kernel_rfl,by decide,wf _ _ (by decide) (by decide) (by decide)⟩
 ·exact ⟨⟨[⟨1,31,31⟩],List.replicate 5 1⟩,by kernel_rfl,by kernel_rfl,by decide,wf _ _ (by decide) (by decide) (by decide)⟩
 ·exact ⟨⟨[⟨1,63,63⟩],List.replicate 6 1⟩,by kernel_rfl,by kernel_rfl,by decide,wf _ _ (by decide) (by decide) (by decide)⟩
theorem zKM (p : Nat) (h1 : 1 ≤ p) (h6 : p ≤ 6) : QZ 1048800 1048800 p 0 [] = some (.inl (psK p 0)) ∧ True := by
 have hc : p = 1 ∨ p = 2 ∨ p = 3 ∨ p = 4 ∨ p = 5 ∨ p = 6 := by omega
 rcases hc with rfl | rfl | rfl | rfl | rfl | rfl <;> exact ⟨by kernel_rfl,trivial⟩
theorem zF6 (z : Int) (q : Int) : (¬ ((1 ≤ z ∧ z ≤ 99) ∧ 1 ≤ q ∧ q ≤ 6) ∧ ZW 1048800 z q = some noB) ∨ ∃ (p : Nat) (vt : zR),q = p ∧ (1 ≤ z ∧ z ≤ 99) ∧ 1 ≤ p ∧ p ≤ 6 ∧ vt.sz ≤ 10 ∧ vt.wf ∧ qW 1048800 vt p = some true ∧ ZW 1048800 z q = some (nbB z vt (psK p 0) 0) := by
 unfold ZW
 simp only [zJ,bQ]
 by_cases hz : 1 ≤ z ∧ z ≤ 99
 ·rw [tQ hz.1,tQ hz.2]
  by_cases hq : 1 ≤ q ∧ q ≤ 6
  ·obtain ⟨p,rfl⟩ := Int.eq_ofNat_of_zero_le (show 0 ≤ q by omega)
   obtain ⟨vt,e1,e3,e4,e5⟩ := zMB p (by omega) (by omega)
   have f1 := (zKM p (by omega) (by omega)).1
   refine .inr ⟨p,vt,rfl,hz,by omega,by omega,e4,e5,e3,?_⟩
   ·rw [tQ hq.1,tQ hq.2]
    simp only [Bool.and_self,nQ,fQ,e1,bQ,f1]
    rfl
  ·refine .inl ⟨fun h => hq h.2,?_⟩
   have : (decide (1 ≤ q) && decide (q ≤ 6)) = false := by
    simp only [Bool.and_eq_false_iff,decide_eq_false_iff_not]; omega
   rw [this]
   rfl
 ·refine .inl ⟨fun h => hz h.1,?_⟩
  have : (decide (1 ≤ z) && decide (z ≤ 99)) = false := by
   simp only [Bool.and_eq_false_iff,decide_eq_false_iff_not]; omega
  rw [this]
  rfl
theorem zHS {z : Int} {vt : zR} {p : Nat} (hz : 1 ≤ z ∧ z ≤ 99) (h1 : 1 ≤ p) (h6 : p ≤ 6) (hv : qW 1048800 vt p = some true) (hs : vt.sz ≤ 10) (wv : vt.wf) (r8 : zA) (hr : r8.Ps.length = p) : ∀ (m k : Nat) (v : Int),k ≤ p → p < m + k → 0 ≤ v → v ≤ 1000000 → ∃ w,0 ≤ w ∧ w ≤ 1000000 ∧
  ∀ (i : Nat) (zs : List zA) (hi : i < zs.length),zs[i] = nbB z vt (psK p k) v → Zr 1048800 m p i k zs = some (.inl (zs.set i (nbB z vt (psK p p) w)))
 | 0,k,v,hk,hm,v0,v1 => by omega
 | m + 1,k,v,hk,hm,v0,v1 => by
  by_cases hkp : k < p
  ·obtain ⟨v',a0,a1,e1,e2⟩ := zMr hz h1 h6 hkp hv hs wv v0 v1
   obtain ⟨w,b0,b1,f2⟩ := zHS hz h1 h6 hv hs wv r8 hr m (k + 1) v' hkp (by omega) a0 a1
   refine ⟨w,b0,b1,fun i zs hi hzi => ?_⟩
   ·rw [Zr,tQ (show (k : Int) < (p : Int) by omega),cQ,zB hi,bQ,hzi,e1,bQ,vQ k,Int.toNat_natCast,f2 i (zs.set i (nbB z vt (psK p (k + 1)) v')) (by simpa using hi) (by simp),List.set_set]
  ·obtain rfl : k = p := by omega
   refine ⟨v,v0,v1,fun i zs hi hzi => ?_⟩
   ·rw [Zr,dQ (show ¬ (k : Int) < (k : Int) by omega),fQ,← hzi,List.set_getElem_self]
theorem NU.make_s (z q : Int) : ∃ y y',NU q y y' ∧ ZW 1048800 z q = some y := by
 rcases zF6 z q with ⟨_,e1⟩ | ⟨p,vt,rfl,hz,h1,h6,hs,wv,hv,e1⟩
 ·exact ⟨noB,noB,.inl ⟨rfl,rfl⟩,e1⟩
 ·obtain ⟨w,b0,b1,f2⟩ := zHS hz h1 h6 hv hs wv (nbB z vt (psK p 0) 0) (YG (by omega)) 1048800 0 0 (by omega) (by omega) (by omega) (by omega)
  exact ⟨_,_,.inr ⟨z,p,vt,w,rfl,hz,h1,h6,hs,wv,hv,b0,b1,rfl,rfl,fun i zs hi hzi => f2 i zs hi hzi⟩,e1⟩
theorem zC9 (xs : List Int) (q : Int) (h : xs.length ≤ 1048576) : ∀ (m k : Nat) (acc acc' : List zA),k ≤ xs.length → xs.length < m + k → acc.length = k → acc'.length = k → (∀ j (hj : j < acc.length) (hj' : j < acc'.length),NU q acc[j] acc'[j]) → ∃ ys ys' : List zA,ZM 1048800 m xs q k acc = some (.inl ys) ∧ ys.length = xs.length ∧ ys'.length = xs.length ∧ ∀ j (hj : j < ys.length) (hj' : j < ys'.length),NU q ys[j] ys'[j]
 | 0,k,acc,acc',h1,h2,h3,h3',h4 => by omega
 | m + 1,k,acc,acc',h1,h2,h3,h3',h4 => by
  rw [ZM]
  by_cases hk : k < xs.length
  ·obtain ⟨y,y',u,e1⟩ := NU.make_s xs[k] q
   rw [qH hk,cQ,zB hk,bQ,e1,bQ,tQ (by simp; omega),cQ,vQ k]
   exact zC9 xs q h m (k + 1) (acc ++ [y]) (acc' ++ [y']) (by omega) (by omega) (by simp; omega) (by simp; omega) (fun j hj hj' => by
    by_cases hjk : j < k
    ·rw [List.getElem_append_left (by omega),List.getElem_append_left (by omega)]; exact h4 j (by omega) (by omega)
    ·have : j = k := by simp at hj; omega
     subst this
     rw [List.getElem_append_right (by omega),List.getElem_append_right (by omega)]
     simp only [h3,h3',Nat.sub_self,List.getElem_cons_zero]
     exact u)
  ·obtain rfl : k = xs.length := by omega
   rw [zz]
   exact ⟨acc,acc',rfl,h3,h3',h4⟩
theorem zBM (xs : List Int) (q : Int) (h : xs.length ≤ 1048576) : ∀ (m k : Nat) (acc ys : List zA),k ≤ xs.length → acc.length = k → (∀ j (hj : j < acc.length) (hx : j < xs.length),ZW 1048800 xs[j] q = some acc[j]) → ZM 1048800 m xs q k acc = some (.inl ys) → ∀ j (hj : j < ys.length) (hx : j < xs.length),ZW 1048800 xs[j] q = some ys[j]
 | 0,k,acc,ys,_,_,_,h => by cases h
 | m + 1,k,acc,ys,h1,h2,h3,e => by
  rw [ZM] at e
  by_cases hk : k < xs.length
  ·obtain ⟨y,y',u,e1⟩ := NU.make_s xs[k] q
   rw [qH hk,cQ,zB hk,bQ,e1,bQ,tQ (by simp; omega),cQ,vQ k] at e
   refine zBM xs q h m (k + 1) (acc ++ [y]) ys (by omega) (by simp; omega) (fun j hj hx => ?_) e
   by_cases hjk : j < k
   ·rw [List.getElem_append_left (by omega)]
    exact h3 j (by omega) hx
   ·have : j = k := by simp at hj; omega
    subst this
    rw [List.getElem_append_right (by omega)]
    simp only [h2,Nat.sub_self,List.getElem_cons_zero]
    exact e1
  ·obtain rfl : k = xs.length := by omega
   rw [zz] at e
   cases e
   exact h3
theorem zI6 (xs : List Int) (p : Nat) (ls : List Link) (h0 : 1 ≤ xs.length) (h6 : xs.length ≤ 6) (hx : ∀ j (hj : j < xs.length),1 ≤ xs[j] ∧ xs[j] ≤ 99) (hd : ∀ i j (hj : j < xs.length) (hij : i < j),xs[i] ≠ xs[j]) (hp0 : 1 ≤ p) (hp : p ≤ 6) (hl : zDa xs.length p ls) :
  ∃ ys : List zA,J3 1048800 xs p ls = some ⟨ys,ls,[]⟩ ∧ zy 1048800 ⟨ys,ls,[]⟩ ∧ ys.length = xs.length ∧ ∀ j (hj : j < ys.length),ys[j].Ps.length = p ∧ ∀ k (hk : k < ys[j].Ps.length),ys[j].Ps[k].Up = true := by
 have hm : maxLen = 9223372036854775807 := by decide
 have h9 := hl.1
 have wl : Q7 Link.wf ls := ⟨by omega,fun l hl' => by
  obtain ⟨a,b,x,y,rfl,ha,hb,hx',hy,_⟩ := hl.2.1 l hl'
  exact ⟨iQ (z := (a : Int)),iQ (z := (x : Int)),iQ (z := (b : Int)),iQ (z := (y : Int)),trivial⟩⟩
 have big : ∀ ys : List zA,ys.length ≤ 1048576 → (∀ y ∈ ys,y.wf ∧ y.sz ≤ 16) → (⟨ys,ls,[]⟩ : Net).wf ∧ Big ⟨ys,ls,[]⟩ := fun ys hy hw => ⟨⟨⟨by simp only; omega,fun y hy => (hw y hy).1⟩,wl,⟨Nat.zero_le _,fun _ hs => by cases hs⟩,trivial⟩,hy,fun a ha => by have := (hw a ha).2; omega,by simp only; omega,Nat.zero_le _⟩
 obtain ⟨ys,ys',e1,l1,l2,hu⟩ := zC9 xs p (by omega) 1048800 0 [] [] (by omega) (by omega) rfl rfl (fun j hj => absurd hj (Nat.not_lt_zero j))
 have each := zBM xs p (by omega) 1048800 0 [] ys (by omega) rfl (fun j hj => absurd hj (Nat.not_lt_zero j)) e1
 have nb : ∀ j (hj : j < ys.length),ys[j].Id = xs[j]'(by omega) ∧ ys[j].Ps.length = p ∧ zN 1048800 ys[j] = some true := fun j hj => by
  have hxj : j < xs.length := by omega
  have e := each j hj hxj
  rcases zF6 xs[j] p with ⟨hno,_⟩ | ⟨p',vt,hpp,hz,q1,q6,hs,wv,hv,e2⟩
  ·exact absurd ⟨hx j hxj,by omega,by omega⟩ hno
  ·obtain rfl : p = p' := by omega
   rw [e] at e2
   have e3 := Option.some.inj e2
   rw [e3]
   exact ⟨rfl,YG (by omega),zG8 hz q1 q6 (by omega) hv (by omega) (by omega)⟩
 have fy : ∀ y ∈ ys,y.wf ∧ y.sz ≤ 16 := fun y hy => by
  obtain ⟨j,hj,rfl⟩ := List.getElem_of_mem hy
  have f := (hu j hj (by omega)).facts
  exact ⟨f.1,f.2.2.1⟩
 have fy' : ∀ y ∈ ys',y.wf ∧ y.sz ≤ 16 := fun y hy => by
  obtain ⟨j,hj,rfl⟩ := List.getElem_of_mem hy
  have f := (hu j (by omega) hj).facts
  exact ⟨f.2.1,f.2.2.2.1⟩
 obtain ⟨w1,b1⟩ := big ys (by omega) fy
 obtain ⟨w2,b2⟩ := big ys' (by omega) fy'
 obtain ⟨b,o1,_,_,o4⟩ := zK0 1048800 _ w1 b1 (by omega)
 have port : ∀ (a x : Nat),a < ys.length → x < p → ∃ v,zm ⟨ys,ls,[]⟩ a x = some v ∧ v.Up = false := fun a x ha hx' => by
  have hl := (nb a ha).2.1
  refine ⟨ys[a].Ps[x]'(by omega),?_,((hu a ha (by omega)).facts.2.2.2.2.2.2.2.1 x (by omega)).1⟩
  unfold zm
  simp only
  rw [zB ha,bQ,zB (by omega)]
 have hc : zE0 1048800 ⟨ys,ls,[]⟩ := by
  refine ⟨fun k _ hk => ⟨(nb k hk).2.2,fun j hj => ?_,fun q hq hh => ?_⟩,⟨by simp only; omega,by simp only; omega⟩,hl.1,Nat.zero_le _,fun k hk => ?_⟩
  ·have hk' : k < ys.length := hk
   simp only
   rw [(nb j (by omega)).1,(nb k hk').1]
   exact hd j k (by omega) hj
  ·have hk' : k < ys.length := hk
   have f := ((hu k hk' (by omega)).facts.2.2.2.2.2.2.2.1 q hq).2
   simp only at hh
   rw [f] at hh
   cases hh
  ·have hk' : k < ls.length := hk
   obtain ⟨a,b,x,y,e,ha,hb,hx',hy,hab⟩ := hl.2.1 ls[k] (List.getElem_mem hk')
   simp only
   have one : ∀ c z : Int,qC c z ls[k] = true → qG (qO c z) ls = 1 := fun c z hcz => by
    have c1 := zBX.1 hcz
    have c2 := zEd (qO c z) ls _ (List.getElem_mem hk')
    have c3 := hl.2.2 c z
    omega
   refine ⟨?_,one _ _ (QE.2 (.inl ⟨rfl,rfl⟩)),one _ _ (QE.2 (.inr ⟨rfl,rfl⟩))⟩
   rw [e]
   obtain ⟨v,v1,v2⟩ := port a x (by omega) hx'
   obtain ⟨w,w1,w2⟩ := port b y (by omega) hy
   exact ⟨fun h => by simp only at h; omega,v,w,v1,w1,v2.trans w2.symm⟩
 obtain rfl := o4 rfl hc
 have nob : ∀ j (hj : j < ys.length),ys[j] ≠ noB := fun j hj e => by
  have := (nb j hj).2.1
  rw [e] at this
  simp only [noB,List.length_nil] at this
  omega
 have l3 := zCT p ys ys' (by omega) (by omega) hu nob 1048800 0 ys (by omega) (by omega) rfl (fun j hj => by rw [if_neg (by omega)])
 refine ⟨ys',?_,⟨w2,b2,(zLW p ls ys ys' (by omega) hu).1 hc,fun s hs => by cases hs⟩,by omega,fun j hj => ?_⟩
 ·have hg : decide (([] : List Link).length + ls.length ≤ 268435456) = true := tQ (by simp; omega)
  unfold J3
  rw [hg,cQ,show ZM 1048800 1048800 xs p 0 [] = _ from e1]
  simp only [bQ,JD,List.nil_append]
  rw [o1]
  simp only [bQ,nQ,fQ]
  rw [show ZL 1048800 1048800 p 0 ys = _ from l3]
  rfl
 ·have f := (hu j (by omega) hj).facts
  exact ⟨by have := (nb j (by omega)).2.1; have := f.2.2.2.2.2.1; omega,fun k hk => (f.2.2.2.2.2.2.2.2 k hk).1⟩
theorem zKv (r q : Nat) (hq : q ≤ 6) : (∀ j (hj : j < ((List.range q).map (fun k => ((1 + (r + k * 3) % 7 : Nat) : Int))).length),1 ≤ ((List.range q).map (fun k => ((1 + (r + k * 3) % 7 : Nat) : Int)))[j] ∧ ((List.range q).map (fun k => ((1 + (r + k * 3) % 7 : Nat) : Int)))[j] ≤ 99) ∧
  ∀ i j (hj : j < ((List.range q).map (fun k => ((1 + (r + k * 3) % 7 : Nat) : Int))).length) (hij : i < j),((List.range q).map (fun k => ((1 + (r + k * 3) % 7 : Nat) : Int)))[i] ≠ ((List.range q).map (fun k => ((1 + (r + k * 3) % 7 : Nat) : Int)))[j] := by
 refine ⟨fun j hj => ?_,fun i j hj hij => ?_⟩
 ·rw [List.getElem_map,List.getElem_range]
  omega
 ·have hj' : j < q := by simpa using hj
  rw [List.getElem_map,List.getElem_range,List.getElem_map,List.getElem_range]
  omega
theorem zGc (c : Src) (hc : c.ok) (z : Int) (z0 : 0 ≤ z) (z1 : z ≤ 100) : ∃ (y : Net) (c' : Src),Jc 1048800 c z = some (y,c') ∧ zy 1048800 y ∧ c'.ok := by
 obtain ⟨v1,c1,e1,a1,b1,g1⟩ := z6 1048800 c 6 hc
 obtain ⟨v2,c2,e2,a2,b2,g2⟩ := z6 1048800 c1 4 g1
 have b1 := b1 (by decide)
 have b2 := b2 (by decide)
 obtain ⟨v1,rfl⟩ := Int.eq_ofNat_of_zero_le a1
 obtain ⟨v2,rfl⟩ := Int.eq_ofNat_of_zero_le a2
 have t1 : IntKind.wrap .i64 (1 + (v1 : Int)) = ((1 + v1 : Nat) : Int) := by rw [wQ]; omega
 have t2 : IntKind.wrap .i64 (2 + (v2 : Int)) = ((2 + v2 : Nat) : Int) := by rw [wQ]; omega
 obtain ⟨r,c3,e3,g3⟩ := zHL 1048800 c2 (1 + v1) (by omega) (by omega) g2
 obtain ⟨ls,c4,e4,l4,g4⟩ := zFr (n := 1048800) (by omega) (q := 1 + v1) (p := 2 + v2) (by omega) (by omega) (by omega) (by omega) c3 g3
 obtain ⟨i1,i2⟩ := zKv r (1 + v1) (by omega)
 have hlen : ((List.range (1 + v1)).map (fun k => ((1 + (r + k * 3) % 7 : Nat) : Int))).length = 1 + v1 := by simp
 obtain ⟨ys,e5,n5,_⟩ := zI6 _ (2 + v2) ls (by omega) (by omega) i1 i2 (by omega) (by omega) (by rw [hlen]; exact l4)
 have h6 := n5.2.2.1.2.1.2
 simp only at h6
 obtain ⟨zs,c6,n6,l6,g6,e6⟩ := zCE (n := 1048800) (by omega) 1048800 0 ys c4 n5 g4 (by omega) (by omega)
 obtain ⟨v7,c7,e7,a7,b7,g7⟩ := z6 1048800 c6 (IntKind.wrap .i64 (z + 1)) g6
 have t7 : IntKind.wrap .i64 (z + 1) = z + 1 := wQ
 have b7 := b7 (by omega)
 obtain ⟨v7,rfl⟩ := Int.eq_ofNat_of_zero_le a7
 obtain ⟨y,c8,n8,g8,e8⟩ := zCD (n := 1048800) (by omega) 1048800 v7 ⟨zs,ls,[]⟩ c7 n6 g7 (by omega) (by omega)
 refine ⟨y,c8,?_,n8,g8⟩
 unfold Jc Ys
 rw [e1]
 simp only [bQ]
 rw [e2]
 simp only [bQ,t1,t2]
 rw [e3]
 simp only [bQ]
 rw [e4]
 simp only [bQ]
 rw [e5]
 simp only [bQ]
 rw [show ZC 1048800 1048800 0 ys c4.b c4.i c4.h = _ from e6]
 simp only [bQ]
 rw [show ze 1048800 ⟨c6.b,c6.i,c6.h⟩ (IntKind.wrap .i64 (z + 1)) = _ from e7]
 simp only [bQ]
 rw [show Zx 1048800 1048800 v7 c7.b c7.i c7.h zs ls [] = _ from e8]
 rfl
theorem zGU (x0 : List Int) (h : x0.length ≤ 1048576) : ∃ (y : Net) (zs : List Event),JZ 1048800 x0 = some (y,zs) ∧ zy 1048800 y ∧ zs.length ≤ 10 := by
 obtain ⟨c,e1,g1⟩ := zHz 1048800 x0 (by omega) (by omega)
 have t0 : Int.tdiv (x0.length : Int) 12 = ((x0.length / 12 : Nat) : Int) := by rw [Int.tdiv_eq_ediv_of_nonneg (by omega)]; omega
 have t1 : IntKind.wrap .i64 ((x0.length / 12 : Nat) : Int) = ((x0.length / 12 : Nat) : Int) := wQ
 have t2 : IntKind.wrap .i64 (3 + ((x0.length / 12 : Nat) : Int)) = ((3 + x0.length / 12 : Nat) : Int) := by rw [wQ]; omega
 obtain ⟨s,e2,s0,s1⟩ : ∃ s,J6 1048800 x0 20 = some s ∧ 0 ≤ s ∧ s ≤ 20 := by
  unfold J6
  rw [t0,t1,t2,show decide ((12 : Int) ≠ 0) = true from by decide,cQ]
  by_cases hs : ((3 + x0.length / 12 : Nat) : Int) > 20
  ·rw [tQ hs]; exact ⟨20,rfl,by omega,by omega⟩
  ·rw [dQ hs]; exact ⟨_,rfl,by omega,by omega⟩
 obtain ⟨y,c2,e3,n3,g3⟩ := zGc c g1 (6 + s) (by omega) (by omega)
 obtain ⟨zs,c4,e4,l4,_⟩ := zFU 1048800 c2 g3 (by omega)
 refine ⟨y,zs,?_,n3,l4⟩
 unfold JZ
 rw [e1,bQ,e2,bQ,show IntKind.wrap .i64 (6 + s) = 6 + s from wQ,e3,bQ,e4]
 rfl
theorem zDT (n : Nat) (x : Net) {a p : Nat} (ha : a < x.Bs.length) (hp : p < x.Bs[a].Ps.length) (h1 : x.Bs.length ≤ 1000) (h2 : x.Bs[a].Ps.length ≤ 1000) : QT n x a p = some x.Bs[a].Ps[p].Up := by
 unfold QT
 rw [zJ,bQ,wQ,tQ (show (0 : Int) ≤ a by omega),tQ (show (a : Int) ≤ (x.Bs.length : Int) - 1 by omega),Bool.and_true,cQ,zB ha,bQ,zJ,bQ,wQ,tQ (show (0 : Int) ≤ p by omega),tQ (show (p : Int) ≤ (x.Bs[a].Ps.length : Int) - 1 by omega),Bool.and_true,cQ,bQ,zB hp]
 rfl
theorem zy.linkV {n : Nat} {x : Net} (hx : zy n x) {k : Nat} (hk : k < x.Ls.length) : ∃ p q : Pt,zm x x.Ls[k].A x.Ls[k].P = some p ∧ zm x x.Ls[k].B x.Ls[k].Q = some q ∧ p.Up = q.Up ∧ qp n x k = some p.Up ∧ za n x k = some p.Up ∧ (p.Up = false → p.Has = false) ∧ (q.Up = false → q.Has = false) := by
 obtain ⟨a,p,c,q,ha,hc,ea,ep,ec,eq,hac,hp,hq,hp6,hq6⟩ := hx.ends hk
 have h6 := hx.2.2.1.2.1.2
 have h9 := hx.2.2.1.2.2.1
 have sa := (hx.br ha).2.2
 have sc := (hx.br hc).2.2
 have qa : x.Bs[a].Name.size + x.Bs[a].Ps.length + x.Bs[a].F.length + x.Bs[a].V.sz = x.Bs[a].sz := rfl
 have qc : x.Bs[c].Name.size + x.Bs[c].Ps.length + x.Bs[c].F.length + x.Bs[c].V.sz = x.Bs[c].sz := rfl
 have up := hx.up x.Ls[k] (List.getElem_mem hk)
 have pa : zm x x.Ls[k].A x.Ls[k].P = some x.Bs[a].Ps[p] := by
  unfold zm; rw [ea,ep,zB ha,bQ,zB hp]
 have pc : zm x x.Ls[k].B x.Ls[k].Q = some x.Bs[c].Ps[q] := by
  unfold zm; rw [ec,eq,zB hc,bQ,zB hq]
 unfold J8 at up
 rw [pa,pc] at up
 have up : x.Bs[a].Ps[p].Up = x.Bs[c].Ps[q].Up := Option.some.inj up
 obtain ⟨u,u1,u2⟩ := hx.link x.Said k
 have u1' : qp n x k = some u := u1
 have hu : u = x.Bs[a].Ps[p].Up := by
  unfold qp at u1'
  rw [zJ,bQ,wQ,tQ (show (0 : Int) ≤ k by omega),tQ (show (k : Int) ≤ (x.Ls.length : Int) - 1 by omega),Bool.and_true,nQ,fQ,zB hk,bQ,ea,ep,ec,eq,zDT n x ha hp (by omega) (by omega),bQ,zDT n x hc hq (by omega) (by omega)] at u1'
  simp only [bQ] at u1'
  cases hh : x.Bs[a].Ps[p].Up with
  | false => rw [hh] at u1'; exact (Option.some.inj u1').symm
  | true => rw [hh,cQ] at u1'; rw [← Option.some.inj u1',← up]; exact hh
 subst hu
 have has : ∀ (i j : Nat) (hi : i < x.Bs.length) (hj : j < x.Bs[i].Ps.length),x.Bs[i].Ps[j].Up = false → x.Bs[i].Ps[j].Has = false := fun i j hi hj h => by
  have s := (hx.br hi).2.2
  have qs : x.Bs[i].Name.size + x.Bs[i].Ps.length + x.Bs[i].F.length + x.Bs[i].V.sz = x.Bs[i].sz := rfl
  obtain ⟨p1,p2,p3,p4,p5,p6,p7,p8,p9,p10,p11,p12,p13⟩ := zt n _ (by omega) (hx.br hi).1
  cases hh : x.Bs[i].Ps[j].Has with
  | false => rfl
  | true => have := ((Yq n _ (p13 j hj)).2.1 hh).1; rw [h] at this; cases this
 exact ⟨_,_,pa,pc,up,u1,u2,has a p ha hp,has c q hc hq⟩
def lx2 (a b : Int × Int) : Prop := a.1 < b.1 ∨ (a.1 = b.1 ∧ a.2 < b.2)
instance (a b : Int × Int) : Decidable (lx2 a b) := inferInstanceAs (Decidable (_ ∨ _))
inductive zGj (N : Nat) (ids : Nat → Int) (E : Nat → Nat → Int → Int → Prop) : Nat → Int → Int → Prop
 | own (i : Nat) : i < N → zGj N ids E i (ids i) 0
 | step (i j : Nat) (w q r c : Int) : i < N → E i j w q → zGj N ids E j r c → zGj N ids E i r (c + w)
def le4 (a b : Int × Int × Int × Int) : Prop := a.1 < b.1 ∨ (a.1 = b.1 ∧ (a.2.1 < b.2.1 ∨ (a.2.1 = b.2.1 ∧ (a.2.2.1 < b.2.2.1 ∨ (a.2.2.1 = b.2.2.1 ∧ a.2.2.2 ≤ b.2.2.2)))))
def zKj (v : Int × Int × Int) (w : Int) : Prop := v.2.1 + w ≤ 100000 ∧ v.2.2 + 1 ≤ 10
theorem zKz (P : Nat → Prop) (h : ∃ n,P n) : ∃ n,P n ∧ ∀ m,P m → n ≤ m := by
 obtain ⟨n,hn⟩ := h
 induction n using Nat.strongRecOn with
 | ind n ih =>
  by_cases h : ∃ m,m < n ∧ P m
  ·obtain ⟨m,h1,h2⟩ := h
   exact ih m h1 h2
  ·refine ⟨n,hn,fun m hm => ?_⟩
   by_cases hmn : n ≤ m
   ·exact hmn
   ·exact absurd ⟨m,by omega,hm⟩ h
theorem filter_lt {α : Type} (p q : α → Bool) (h : ∀ a,p a = true → q a = true) : ∀ (l : List α),(l.filter p).length ≤ (l.filter q).length ∧ ((∃ a ∈ l,q a = true ∧ p a = false) → (l.filter p).length < (l.filter q).length)
 | [] => ⟨Nat.le_refl _,fun ⟨a,ha,_⟩ => by cases ha⟩
 | x :: xs => by
  obtain ⟨h1,h2⟩ := filter_lt p q h xs
  simp only [List.filter_cons]
  cases hp : p x with
  | true =>
   rw [h x hp]
   refine ⟨by simp; omega,fun ⟨a,ha,ha1,ha2⟩ => ?_⟩
   rcases List.mem_cons.1 ha with rfl | ha
   ·rw [hp] at ha2; cases ha2
   ·have := h2 ⟨a,ha,ha1,ha2⟩
    simp; omega
  | false =>
   cases hq : q x with
   | true =>
    refine ⟨by simp; omega,fun _ => by simp; omega⟩
   | false =>
    refine ⟨by simpa using h1,fun ⟨a,ha,ha1,ha2⟩ => ?_⟩
    rcases List.mem_cons.1 ha with rfl | ha
    ·rw [hq] at ha1; cases ha1
    ·simpa using h2 ⟨a,ha,ha1,ha2⟩
theorem zGj.nn {N : Nat} {ids : Nat → Int} {E : Nat → Nat → Int → Int → Prop} (hE : ∀ i j w q,E i j w q → 1 ≤ w ∧ w ≤ 1000 ∧ j < N) (hid : ∀ i,i < N → 1 ≤ ids i) {i : Nat} {r c : Int} (h : zGj N ids E i r c) : 1 ≤ r ∧ 0 ≤ c := by
 induction h with
 | own i hi => exact ⟨hid i hi,by omega⟩
 | step i j w q r c hi he _ ih => have := hE i j w q he; exact ⟨ih.1,by omega⟩
theorem le4.trans {a b c : Int × Int × Int × Int} (h1 : le4 a b) (h2 : le4 b c) : le4 a c := by
 unfold le4 at *
 omega
theorem le4.rfl' (a : Int × Int × Int × Int) : le4 a a := by
 unfold le4
 omega
def zNC (p : Pt) : Prop := p.Hd.Co + p.Co ≤ 100000 ∧ p.Hd.Hops + 1 ≤ 10
def zNA (v : Vec) (c : Int) : Vec := ⟨v.Root,v.Co + c,v.Hops + 1,v.Bridge,v.Port⟩
def zIf (id : Int) (p : Pt) : Prop := p.Up = true ∧ p.Has = true ∧ zNC p ∧ p.Hd.Root < id
def zMq (p : Pt) : Int × Int × Int × Int := (p.Hd.Root,p.Hd.Co + p.Co,p.Hd.Bridge,p.Hd.Port)
def zJ6 (id : Int) (l : List Pt) (k : Nat) (y2 y3 y4 y5 y6 y7 y8 y9 y10 : Int) : Prop :=
 (y2 < 0 ∧ y8 = id ∧ y9 = 0 ∧ y10 = 0 ∧ ∀ j (hj : j < l.length),j < k → ¬ zIf id l[j]) ∨
 (0 ≤ y2 ∧ ∃ j,∃ hj : j < l.length,(zIf id l[j] ∧ y2 = (j : Int)) ∧ (⟨y3,y4,y5,y6,y7⟩ : Vec) = zNA l[j].Hd l[j].Co ∧ y8 = y3 ∧ y9 = y4 ∧ y10 = y5 ∧ ∀ j' (hj' : j' < l.length),j' < k → zIf id l[j'] → le4 (zMq l[j]) (zMq l[j']))
theorem zJ6.skip {id : Int} {l : List Pt} {k : Nat} {y2 y3 y4 y5 y6 y7 y8 y9 y10 : Int} (h : zJ6 id l k y2 y3 y4 y5 y6 y7 y8 y9 y10) (hk : ∀ hk : k < l.length,¬ zIf id l[k]) : zJ6 id l (k + 1) y2 y3 y4 y5 y6 y7 y8 y9 y10 := by
 rcases h with ⟨a,b,c,d,e⟩ | ⟨a,j,hj,b,c,d,e,f,g⟩
 ·refine .inl ⟨a,b,c,d,fun j hj hjk => ?_⟩
  by_cases hjk' : j = k
  ·subst hjk'; exact hk hj
  ·exact e j hj (by omega)
 ·refine .inr ⟨a,j,hj,b,c,d,e,f,fun j' hj' hjk hc => ?_⟩
  by_cases hjk' : j' = k
  ·subst hjk'; exact absurd hc (hk hj')
  ·exact g j' hj' (by omega) hc
def zBq (l : Link) (i p j q : Int) : Prop := (l.A = i ∧ l.P = p ∧ l.B = j ∧ l.Q = q) ∨ (l.B = i ∧ l.Q = p ∧ l.A = j ∧ l.P = q)
theorem zG9 {x : Net} {i : Nat} (hi : i < x.Bs.length) {p : Int} {pt : Pt} (h : zm x i p = some pt) : ∃ p' : Nat,p = p' ∧ ∃ hp : p' < x.Bs[i].Ps.length,x.Bs[i].Ps[p'] = pt := by
 obtain ⟨v,h1,h2⟩ := QR h
 rw [zB hi] at h1
 obtain rfl := Option.some.inj h1
 exact zCr h2
inductive q5 (W : Nat → Nat → Int → Prop) (root : Nat) : Nat → Int → Prop
 | start : q5 W root root 0
 | step (a b : Nat) (d c : Int) : q5 W root a d → W a b c → q5 W root b (d + c)
theorem q5.nnT {W : Nat → Nat → Int → Prop} {root N : Nat} (hr : root < N) (hW : ∀ a b c,W a b c → a < N ∧ b < N ∧ 1 ≤ c) {i : Nat} {d : Int} (h : q5 W root i d) : 0 ≤ d ∧ i < N := by
 induction h with
 | start => exact ⟨Int.le_refl _,hr⟩
 | step a b d c _ w ih => have := hW _ _ _ w; exact ⟨by omega,this.2.1⟩
theorem zLF {N root : Nat} (hr : root < N) {W : Nat → Nat → Int → Prop} (hW : ∀ a b c,W a b c → a < N ∧ b < N ∧ 1 ≤ c) {K : Nat → Int} (hK : ∀ i d,q5 W root i d → q5 W root i (K i) ∧ K i ≤ d) {b : Nat} {d : Int} (hb : q5 W root b d) : (b = root → K b = 0) ∧ (b ≠ root → ∃ a c,W a b c ∧ (∃ d,q5 W root a d) ∧ K b = K a + c) ∧ ∀ a c,W a b c → (∃ d,q5 W root a d) → K b ≤ K a + c := by
 obtain ⟨k1,k2⟩ := hK b d hb
 refine ⟨fun h => ?_,fun h => ?_,fun a c w ⟨d',h⟩ => ?_⟩
 ·subst h
  have := (hK b 0 .start).2
  have := (k1.nnT hr hW).1
  omega
 ·generalize hk : K b = k at k1
  cases k1 with
  | start => exact absurd rfl h
  | step a _ d' c h' w =>
   obtain ⟨j1,j2⟩ := hK a d' h'
   have := (hK b _ (.step a b _ _ j1 w)).2
   exact ⟨a,c,w,⟨d',h'⟩,by omega⟩
 ·obtain ⟨j1,j2⟩ := hK a d' h
  exact (hK b _ (.step a b _ _ j1 w)).2
structure AgN (N : Nat) (ids : Nat → Int) (V : Nat → Int × Int × Int) (rp : Nat → Int) (Ed : Nat → Nat → Int → Int → Nat → Int → Prop) : Prop where
 n6 : N ≤ 6
 inj : ∀ i j,i < N → j < N → ids i = ids j → i = j
 rng : ∀ k i p w j q,Ed k i p w j q → i < N ∧ j < N ∧ i ≠ j ∧ 1 ≤ w ∧ w ≤ 1000 ∧ 0 ≤ p
 sym : ∀ k i p w j q,Ed k i p w j q → ∃ w',Ed k j q w' i p
 two : ∀ k i p w j q i' p' w' j' q',Ed k i p w j q → Ed k i' p' w' j' q' → (i' = i ∧ p' = p ∧ w' = w ∧ j' = j ∧ q' = q) ∨ (i' = j ∧ p' = q ∧ j' = i ∧ q' = p)
 one : ∀ k k' i p w j q w' j' q',Ed k i p w j q → Ed k' i p w' j' q' → k' = k
 hop : ∀ i,i < N → 0 ≤ (V i).2.2
 know : ∀ i,i < N → (rp i < 0 ∧ V i = (ids i,0,0) ∧ ∀ k p w j q,Ed k i p w j q → zKj (V j) w → ids i ≤ (V j).1) ∨
  ∃ k w j q,Ed k i (rp i) w j q ∧ (V j).1 < ids i ∧ V i = ((V j).1,(V j).2.1 + w,(V j).2.2 + 1) ∧ ∀ k' p' w' j' q',Ed k' i p' w' j' q' → zKj (V j') w' → (V j').1 < ids i → (V j).1 ≤ (V j').1
theorem AgN.upA {N ids V rp Ed} (h : AgN N ids V rp Ed) {k i w j q} (e : Ed k i (rp i) w j q) : V i = ((V j).1,(V j).2.1 + w,(V j).2.2 + 1) := by
 have r := h.rng _ _ _ _ _ _ e
 rcases h.know i r.1 with ⟨e0,_⟩ | ⟨k',w',j',q',e',e2,e3,_⟩
 ·omega
 ·have := h.one _ _ _ _ _ _ _ _ _ _ e e'
  subst this
  rcases h.two _ _ _ _ _ _ _ _ _ _ _ e e' with ⟨_,_,rfl,rfl,_⟩ | ⟨a,_⟩
  ·exact e3
  ·exact absurd a r.2.2.1
inductive zAq (rp : Nat → Int) (Ed : Nat → Nat → Int → Int → Nat → Int → Prop) (c : Nat) : Nat → Prop
 | self : zAq rp Ed c c
 | step (k i : Nat) (w : Int) (j : Nat) (q : Int) : Ed k i (rp i) w j q → zAq rp Ed c j → zAq rp Ed c i
theorem AgN.behindT {N ids V rp Ed} (h : AgN N ids V rp Ed) {c i : Nat} (b : zAq rp Ed c i) : (V c).2.2 ≤ (V i).2.2 := by
 induction b with
 | self => exact Int.le_refl _
 | step k i w j q e _ ih =>
  have := congrArg (·.2.2) (h.upA e)
  simp only at this
  omega
theorem AgN.apart {N ids V rp Ed} (h : AgN N ids V rp Ed) {k c w d q} (e : Ed k c (rp c) w d q) : zAq rp Ed c c ∧ ¬ zAq rp Ed c d ∧ ∀ k' i p w' j q',k' ≠ k → Ed k' i p w' j q' → rp i = p → (zAq rp Ed c i ↔ zAq rp Ed c j) := by
 refine ⟨.self,fun b => ?_,fun k' i p w' j q' hk e' hp => ⟨fun b => ?_,fun b => ?_⟩⟩
 ·have := h.behindT b
  have := congrArg (·.2.2) (h.upA e)
  simp only at this
  omega
 ·subst hp
  cases b with
  | self => exact absurd (h.one _ _ _ _ _ _ _ _ _ _ e e') hk
  | step k2 _ w2 j2 q2 e2 b =>
   have := h.one _ _ _ _ _ _ _ _ _ _ e' e2
   subst this
   rcases h.two _ _ _ _ _ _ _ _ _ _ _ e' e2 with ⟨_,_,_,rfl,_⟩ | ⟨a,_⟩
   ·exact b
   ·exact absurd a (h.rng _ _ _ _ _ _ e').2.2.1
 ·subst hp
  exact .step _ _ _ _ _ e' b
def EdN (n : Nat) (x : Net) (k i : Nat) (p w : Int) (j : Nat) (q : Int) : Prop := ∃ hk : k < x.Ls.length,za n x k = some true ∧ zBq x.Ls[k] i p j q ∧ i < x.Bs.length ∧ j < x.Bs.length ∧ (zm x i p).map (·.Co) = some w
def zEF (x : Net) (l : List Int) (i j : Nat) : Prop := ∃ z ∈ l,∃ lk,idx x.Ls z = some lk ∧ lk.A = i ∧ lk.B = j ∧ i < x.Bs.length ∧ j < x.Bs.length
theorem zKD {x : Net} {l : List Int} {S : Nat → Prop} : Js x l 0 (fun z => S z.toNat) ↔ ∀ i j,zEF x l i j → (S i ↔ S j) := by
 constructor
 ·rintro h i j ⟨z,hz,lk,hlk,hA,hB,hi,hj⟩
  obtain ⟨k,hk,rfl⟩ := List.getElem_of_mem hz
  have := h k _ lk (Nat.zero_le _) (List.getElem?_eq_getElem hk) hlk (by omega) (by omega) (by omega) (by omega)
  rw [hA,hB] at this
  simpa using this
 ·intro h k z lk _ hz hlk a0 a1 b0 b1
  obtain ⟨i,hi⟩ := Int.eq_ofNat_of_zero_le a0
  obtain ⟨j,hj⟩ := Int.eq_ofNat_of_zero_le b0
  have := h i j ⟨z,List.mem_of_getElem? hz,lk,hlk,hi,hj,by omega,by omega⟩
  rw [hi,hj]
  simpa using this
theorem zGI (n : Nat) (x : Net) (b : Nat) (l : List Int) (hb : b < x.Bs.length) (hN : x.Bs.length ≤ 1048576) (hK : x.Ls.length ≤ 1048600) (hl : l.length ≤ 1048590) (hn : 1048700 < n) : ∃ f : Nat → Bool,YO n x b l = some (((List.range' 0 x.Bs.length).filter f).map fun j : Nat => (j : Int)) ∧ f b = true ∧ (∀ i j,zEF x l i j → (f i = true ↔ f j = true)) ∧ ∀ S : Nat → Prop,(∀ i j,zEF x l i j → (S i ↔ S j)) → S b → ∀ j,f j = true → S j := by
 have hb' : 0 ≤ (b : Int) ∧ (b : Int) < x.Bs.length := by omega
 have hrep : (List.replicate x.Bs.length false).length = x.Bs.length := List.length_replicate ..
 have hg : (decide (0 ≤ (x.Bs.length : Int)) && decide ((x.Bs.length : Int) ≤ 268435456)) = true := by
  rw [tQ (by omega),tQ (by omega)]; rfl
 have hset : ∀ z,qu ((List.replicate x.Bs.length false).set ((b : Int)).toNat true) z ↔ z = (b : Int) := fun z => by
  rw [zD1 hb'.1 (by rw [hrep]; exact hb'.2)]
  refine or_iff_left ?_
  rintro ⟨h0,h1⟩
  rw [List.getElem?_replicate] at h1
  split at h1 <;> simp at h1
 obtain ⟨met,f1,f2,f3,f4,f5⟩ := zCQ n x l hl (by omega) (by omega) (by omega) n true ((List.replicate x.Bs.length false).set ((b : Int)).toNat true) (by simp only [if_true]; omega) (by rw [List.length_set,hrep]) (fun h => by cases h)
 have hm : ∀ j : Nat,qu met (j : Int) ↔ (met[j]? == some true) = true := fun j => by
  unfold qu
  simp
 have hm2 : (fun z : Int => qu met z) = fun z : Int => 0 ≤ z ∧ (met[z.toNat]? == some true) = true := by
  funext z
  unfold qu
  simp
 refine ⟨fun j => met[j]? == some true,?_,?_,?_,?_⟩
 ·unfold YO
  rw [qb,Qn n b _ (show x.Bs.length ≤ 1048600 by omega),bQ,tQ hb']
  simp only [nQ,fQ,Int.toNat_natCast]
  rw [hg,zB (by rw [hrep]; exact hb)]
  simp only [Int.toNat_natCast] at f1
  simp only [cQ,bQ,f1,Y8]
  rw [show Zo n n met 0 [] = _ from Jw n met (by omega) n 0 [] (by omega) (by omega) (by simp)]
  simp only [bQ,Y9,List.nil_append,Nat.sub_zero,f2]
 ·exact (hm b).1 (f3 _ ((hset _).2 rfl))
 ·intro i j h
  obtain ⟨z,hz,lk,hlk,hA,hB,hi,hj⟩ := h
  obtain ⟨k,hk,rfl⟩ := List.getElem_of_mem hz
  have := f5 k _ lk (Nat.zero_le _) (List.getElem?_eq_getElem hk) hlk (by omega) (by omega) (by omega) (by omega)
  rw [hA,hB,hm,hm] at this
  exact this
 ·intro S hS hSb j hj
  have := f4 (fun z => S z.toNat) (zKD.2 hS) (fun z hz => by
   rw [(hset z).1 hz]
   simpa using hSb) (j : Int) ((hm j).2 hj)
  simpa using this
theorem zGF {n : Nat} {x : Net} (hx : zy n x) (P : Nat → Bool) (hP : ∀ k (hk : k < x.Ls.length),za n x k = some (P k)) : ∀ (m k : Nat) (acc : List Int),k ≤ x.Ls.length → x.Ls.length < m + k → acc.length ≤ k → ZU n m x k acc = some (.inl (acc ++ ((List.range' k (x.Ls.length - k)).filter P).map fun j : Nat => (j : Int)))
 | 0,k,acc,h1,h2,h3 => by omega
 | m + 1,k,acc,h1,h2,h3 => by
  have h9 := hx.2.2.1.2.2.1
  rw [ZU]
  by_cases hk : k < x.Ls.length
  ·have ih := fun acc h3 => zGF hx P hP m (k + 1) acc (by omega) (by omega) h3
   have hr : List.range' k (x.Ls.length - k) = k :: List.range' (k + 1) (x.Ls.length - (k + 1)) := by
    rw [show x.Ls.length - k = (x.Ls.length - (k + 1)) + 1 by omega,List.range'_succ]
   rw [qH hk,cQ,hP k hk,bQ,vQ k,hr,List.filter_cons]
   cases hp : P k with
   | true =>
    rw [cQ,tQ (by simp; omega),cQ,ih (acc ++ [(k : Int)]) (by simp; omega)]
    simp
   | false =>
    rw [fQ,ih acc (by omega)]
    simp
  ·obtain rfl : k = x.Ls.length := by omega
   rw [zz]
   simp
theorem zFA (n : Nat) (x : Net) (b : Nat) (l : List Int) (xs : List Nat) (hu : Z9 n x = some l) (hj : YO n x b l = some (xs.map fun j : Nat => (j : Int))) (hlen : xs.length ≤ 1000) (hn : 1048700 < n) (hxs : ∀ j ∈ xs,j < x.Bs.length) (hne : xs ≠ []) : ∃ r,∃ hr : r < x.Bs.length,r ∈ xs ∧ q9 n x b = some (r : Int) ∧ q8 n x b = some x.Bs[r].Id ∧ ∀ j (hj : j < x.Bs.length),j ∈ xs → x.Bs[r].Id ≤ x.Bs[j].Id := by
 have loop : ∀ (m k : Nat) (y : Int),k ≤ xs.length → xs.length < m + k → ((y = -1 ∧ k = 0) ∨ ∃ r,∃ hr : r < x.Bs.length,y = (r : Int) ∧ r ∈ xs ∧ ∀ j (hj : j < x.Bs.length) (i : Nat) (hi : i < xs.length),i < k → xs[i] = j → x.Bs[r].Id ≤ x.Bs[j].Id) → ∃ y',ZJ n m (xs.map fun j : Nat => (j : Int)) x k y = some (.inl y') ∧ ((y' = -1 ∧ xs.length = 0) ∨ ∃ r,∃ hr : r < x.Bs.length,y' = (r : Int) ∧ r ∈ xs ∧ ∀ j (hj : j < x.Bs.length) (i : Nat) (hi : i < xs.length),xs[i] = j → x.Bs[r].Id ≤ x.Bs[j].Id) := fun m => by
  induction m with
  | zero => intro k y h1 h2; omega
  | succ m ih =>
   intro k y h1 h2 hy
   rw [ZJ]
   by_cases hk : k < xs.length
   ·have hk' : k < (xs.map fun j : Nat => (j : Int)).length := by simpa using hk
    have hv : xs[k] < x.Bs.length := hxs _ (List.getElem_mem hk)
    have hget : (xs.map fun j : Nat => (j : Int))[k] = (xs[k] : Int) := by simp
    rw [qH hk',cQ,zB hk',bQ,hget,vQ k]
    rcases hy with ⟨rfl,rfl⟩ | ⟨r,hr,rfl,hrm,hmin⟩
    ·rw [tQ (by decide),cQ]
     exact ih 1 _ (by omega) (by omega) (.inr ⟨xs[0],hv,rfl,List.getElem_mem hk,fun j hj i hi hi1 e => by
      have : i = 0 := by omega
      subst this; subst e; exact Int.le_refl _⟩)
    ·rw [dQ (show ¬ (r : Int) < 0 by omega),fQ,zB hv,bQ,zB hr,bQ]
     by_cases hlt : x.Bs[xs[k]].Id < x.Bs[r].Id
     ·rw [tQ hlt,cQ]
      exact ih (k + 1) _ (by omega) (by omega) (.inr ⟨xs[k],hv,rfl,List.getElem_mem hk,fun j hj i hi hi1 e => by
       by_cases hik : i = k
       ·subst hik; subst e; exact Int.le_refl _
       ·have := hmin j hj i hi (by omega) e; omega⟩)
     ·rw [dQ hlt,fQ]
      exact ih (k + 1) _ (by omega) (by omega) (.inr ⟨r,hr,rfl,hrm,fun j hj i hi hi1 e => by
       by_cases hik : i = k
       ·subst hik; subst e; omega
       ·exact hmin j hj i hi (by omega) e⟩)
   ·have he : k = (xs.map fun j : Nat => (j : Int)).length := by simp; omega
    rw [he,zz]
    refine ⟨y,rfl,?_⟩
    rcases hy with ⟨rfl,rfl⟩ | ⟨r,hr,rfl,hrm,hmin⟩
    ·exact .inl ⟨rfl,by omega⟩
    ·exact .inr ⟨r,hr,rfl,hrm,fun j hj i hi e => hmin j hj i hi (by omega) e⟩
 obtain ⟨y',e,h⟩ := loop n 0 (-1) (by omega) (by omega) (.inl ⟨rfl,rfl⟩)
 rcases h with ⟨_,h0⟩ | ⟨r,hr,rfl,hrm,hmin⟩
 ·exact absurd (List.eq_nil_of_length_eq_zero h0) hne
 ·have hroot : q9 n x b = some (r : Int) := by
   unfold q9
   rw [hu,bQ,hj,bQ,show ZJ n n (xs.map fun j : Nat => (j : Int)) x 0 (-1) = _ from e]
   rfl
  refine ⟨r,hr,hrm,hroot,?_,fun j hj hjm => ?_⟩
  ·unfold q8
   rw [hroot,bQ,dQ (by omega),fQ,zB hr]
   rfl
  ·obtain ⟨i,hi,e⟩ := List.getElem_of_mem hjm
   exact hmin j hj i hi e
theorem zKb (N root : Nat) (hr : root < N) (W : Nat → Nat → Int → Prop) (hW : ∀ a b c,W a b c → a < N ∧ b < N ∧ 1 ≤ c) (D : Nat → Nat → Int) (h0 : D 0 root = 0)
  (hm : ∀ t i,t < N → i < N → 0 ≤ D t i → 0 ≤ D (t + 1) i ∧ D (t + 1) i ≤ D t i) (hs : ∀ t i,t ≤ N → i < N → 0 ≤ D t i → q5 W root i (D t i)) (he : ∀ t a b c,t < N → W a b c → 0 ≤ D t a → 0 ≤ D (t + 1) b ∧ D (t + 1) b ≤ D t a + c) :
  ∀ i d,q5 W root i d → q5 W root i (D N i) ∧ D N i ≤ d := by
 have least : ∀ i,∃ k : Int,(∃ d,q5 W root i d) → q5 W root i k ∧ ∀ d,q5 W root i d → k ≤ d := fun i => by
  by_cases h : ∃ d,q5 W root i d
  ·obtain ⟨d0,hd0⟩ := h
   obtain ⟨k,k1,k2⟩ := zKz (fun k : Nat => q5 W root i k) ⟨d0.toNat,by rw [Int.toNat_of_nonneg (hd0.nnT hr hW).1]; exact hd0⟩
   refine ⟨k,fun _ => ⟨k1,fun d hd => ?_⟩⟩
   have nn := (hd.nnT hr hW).1
   have := k2 d.toNat (by rw [Int.toNat_of_nonneg nn]; exact hd)
   omega
  ·exact ⟨0,fun h' => absurd h' h⟩
 obtain ⟨K,hK⟩ := Classical.skolem.1 least
 have dec : ∀ j i,∃ b : Bool,b = true ↔ ((∃ d,q5 W root j d) ∧ K j < K i) := fun j i => by
  by_cases h : (∃ d,q5 W root j d) ∧ K j < K i
  ·exact ⟨true,by simp [h]⟩
  ·exact ⟨false,by simp only [Bool.false_eq_true,false_iff]; exact h⟩
 obtain ⟨R,hR⟩ : ∃ R : Nat → Nat → Bool,∀ j i,R j i = true ↔ ((∃ d,q5 W root j d) ∧ K j < K i) := ⟨fun j i => (dec j i).choose,fun j i => (dec j i).choose_spec⟩
 have rk : ∀ i a,(∃ d,q5 W root a d) → K a < K i → a < N → ((List.range N).filter (fun k => R k a)).length < ((List.range N).filter (fun k => R k i)).length := fun i a h1 h2 h3 => by
  refine (filter_lt _ _ (fun k hk => ?_) (List.range N)).2 ⟨a,List.mem_range.2 h3,(hR a i).2 ⟨h1,h2⟩,?_⟩
  ·have := (hR k a).1 hk
   exact (hR k i).2 ⟨this.1,by omega⟩
  ·exact Bool.eq_false_iff.2 fun hc => by have := ((hR a a).1 hc).2; omega
 have rkN : ∀ i,i < N → ((List.range N).filter (fun k => R k i)).length < N := fun i hi => by
  have := (filter_lt (fun k => R k i) (fun _ => true) (fun _ _ => rfl) (List.range N)).2 ⟨i,List.mem_range.2 hi,rfl,Bool.eq_false_iff.2 fun hc => by have := ((hR i i).1 hc).2; omega⟩
  rw [List.filter_eq_self.2 (fun _ _ => rfl),List.length_range] at this
  exact this
 have main : ∀ m i,(∃ d,q5 W root i d) → ((List.range N).filter (fun k => R k i)).length = m → ∀ t,m ≤ t → t ≤ N → D t i = K i := fun m => by
  induction m using Nat.strongRecOn with
  | ind m ih =>
   intro i hi hm' t ht htN
   obtain ⟨k1,k2⟩ := hK i hi
   have nn := k1.nnT hr hW
   by_cases hir : i = root
   ·subst hir
    have z : ∀ t,t ≤ N → 0 ≤ D t i ∧ D t i ≤ 0 := fun t => by
     induction t with
     | zero => omega
     | succ t ih => intro ht; have ih := ih (by omega); have := hm t i (by omega) nn.2 ih.1; omega
    have := z t htN
    have := k2 _ (q5.start (W := W) (root := i))
    omega
   ·obtain ⟨a,c,d,ha,hw,hk⟩ : ∃ a c d,q5 W root a d ∧ W a i c ∧ K i = d + c := by
     generalize K i = k at k1
     cases k1 with
     | start => exact absurd rfl hir
     | step a _ d c h w => exact ⟨a,c,d,h,w,rfl⟩
    have hwc := hW _ _ _ hw
    obtain ⟨ka1,ka2⟩ := hK a ⟨d,ha⟩
    have hle := ka2 d ha
    have hrk := rk i a ⟨d,ha⟩ (by omega) hwc.1
    obtain ⟨s,rfl⟩ : ∃ s,t = s + 1 := ⟨t - 1,by omega⟩
    have hDa := ih _ (by omega) a ⟨d,ha⟩ rfl s (by omega) (by omega)
    have nna := (ka1.nnT hr hW).1
    have h1 := he s a i c (by omega) hw (by omega)
    have h2 := k2 _ (hs (s + 1) i htN nn.2 h1.1)
    omega
 intro i d hd
 obtain ⟨k1,k2⟩ := hK i ⟨d,hd⟩
 have nn := k1.nnT hr hW
 have hN := rkN i nn.2
 have := main _ i ⟨d,hd⟩ rfl N (by omega) (Nat.le_refl _)
 rw [this]
 exact ⟨k1,k2 d hd⟩
def gd (d : List Int) (i : Nat) : Int := d.getD i (-1)
theorem zGv {d : List Int} {b : Nat} (h : b < d.length) (v : Int) (i : Nat) : gd (d.set b v) i = if i = b then v else gd d i := by
 unfold gd
 rw [List.getD_eq_getElem?_getD,List.getD_eq_getElem?_getD]
 by_cases hi : i = b
 ·subst hi
  rw [if_pos rfl,List.getElem?_set_self h]
  rfl
 ·rw [if_neg hi,List.getElem?_set_ne (by omega)]
theorem zE8 {d : List Int} {a : Nat} (h : a < d.length) : idx d (a : Int) = some (gd d a) := by
 rw [zB h]
 unfold gd
 rw [List.getD_eq_getElem?_getD,List.getElem?_eq_getElem h]
 rfl
theorem zIL (n : Nat) (x : Net) (d : List Int) (a b q : Nat) (c B : Int) (ha : a < d.length) (hb : b < d.length) (hbx : b < x.Bs.length) (hq : q < x.Bs[b].Ps.length) (hc : x.Bs[b].Ps[q].Co = c) (hc0 : 1 ≤ c) (hc1 : c ≤ 1000) (hB : B ≤ 1000000000) (hd : ∀ i,gd d i ≤ B) :
  ∃ d' : List Int,Qz n a b q d x = some d' ∧ d'.length = d.length ∧ (∀ i,gd d' i ≤ B + 1000 ∧ (0 ≤ gd d i → 0 ≤ gd d' i ∧ gd d' i ≤ gd d i) ∧ (0 ≤ gd d' i → gd d' i = gd d i ∨ i = b ∧ 0 ≤ gd d a ∧ gd d' i = gd d a + c)) ∧ (0 ≤ gd d a → 0 ≤ gd d' b ∧ gd d' b ≤ gd d a + c) := by
 unfold Qz
 rw [zE8 ha,bQ]
 have hda := hd a
 have hdb := hd b
 by_cases h1 : gd d a < 0
 ·rw [tQ h1,cQ]
  exact ⟨d,rfl,rfl,fun i => ⟨by have := hd i; omega,fun h => ⟨h,Int.le_refl _⟩,fun h => .inl rfl⟩,fun h => by omega⟩
 ·rw [dQ h1,fQ,zB hbx,bQ,zB hq,bQ,zE8 hb,bQ,hc,wQ,Int.toNat_natCast]
  have upd : gd d b < 0 ∨ gd d a + c < gd d b → ∃ d' : List Int,some (d.set b (gd d a + c)) = some d' ∧ d'.length = d.length ∧ (∀ i,gd d' i ≤ B + 1000 ∧ (0 ≤ gd d i → 0 ≤ gd d' i ∧ gd d' i ≤ gd d i) ∧ (0 ≤ gd d' i → gd d' i = gd d i ∨ i = b ∧ 0 ≤ gd d a ∧ gd d' i = gd d a + c)) ∧ (0 ≤ gd d a → 0 ≤ gd d' b ∧ gd d' b ≤ gd d a + c) := fun h => by
   refine ⟨_,rfl,List.length_set,fun i => ?_,fun _ => ?_⟩
   ·rw [zGv hb]
    by_cases hi : i = b
    ·subst hi
     rw [if_pos rfl]
     exact ⟨by omega,fun h0 => ⟨by omega,by omega⟩,fun _ => .inr ⟨rfl,by omega,rfl⟩⟩
    ·rw [if_neg hi]
     exact ⟨by have := hd i; omega,fun h0 => ⟨h0,Int.le_refl _⟩,fun _ => .inl rfl⟩
   ·rw [zGv hb,if_pos rfl]; exact ⟨by omega,by omega⟩
  by_cases h2 : gd d b < 0
  ·rw [tQ h2,cQ]; exact upd (.inl h2)
  ·rw [dQ h2,fQ]
   by_cases h3 : gd d a + c < gd d b
   ·rw [tQ h3,cQ]; exact upd (.inr h3)
   ·rw [dQ h3,fQ]
    exact ⟨d,rfl,rfl,fun i => ⟨by have := hd i; omega,fun h => ⟨h,Int.le_refl _⟩,fun h => .inl rfl⟩,fun h => ⟨by omega,by omega⟩⟩
def Y6 (n : Nat) (x : Net) (a b : Nat) (c : Int) : Prop := ∃ k p q,EdN n x k b q c a p
theorem zBI {n : Nat} {x : Net} (hx : zy n x) {a b : Nat} {c : Int} (h : Y6 n x a b c) : a < x.Bs.length ∧ b < x.Bs.length ∧ 1 ≤ c ∧ c ≤ 1000 := by
 obtain ⟨k,p,q,hk,hu,he,hb,ha,hcost⟩ := h
 refine ⟨ha,hb,?_⟩
 obtain ⟨pt,h1,h2⟩ := Option.map_eq_some_iff.1 hcost
 obtain ⟨q',rfl,hq,e⟩ := zG9 hb h1
 have s := (hx.br hb).2.2
 have qs : x.Bs[b].Name.size + x.Bs[b].Ps.length + x.Bs[b].F.length + x.Bs[b].V.sz = x.Bs[b].sz := rfl
 obtain ⟨p1,p2,p3,p4,p5,p6,p7,p8,p9,p10,p11,p12,p13⟩ := zt n _ (by omega) (hx.br hb).1
 have := (Yq n _ (p13 q' hq)).1
 rw [e,h2] at this
 exact this
def zId (n : Nat) (x : Net) (root : Nat) (B0 : Int) (d0 : List Int) (zs : List Nat) (j : Nat) (d : List Int) : Prop :=
 d.length = x.Bs.length ∧ (∀ i,gd d i ≤ B0 + 2000 * j) ∧ (∀ i,0 ≤ gd d0 i → 0 ≤ gd d i ∧ gd d i ≤ gd d0 i) ∧ (∀ i,0 ≤ gd d i → q5 (Y6 n x) root i (gd d i)) ∧
 ∀ t k,t < j → zs[t]? = some k → ∀ a b c p q,EdN n x k b q c a p → 0 ≤ gd d0 a → 0 ≤ gd d b ∧ gd d b ≤ gd d0 a + c
theorem zME {n : Nat} {x : Net} (hx : zy n x) (root : Nat) (zs : List Nat) (hz : ∀ k ∈ zs,k < x.Ls.length ∧ za n x k = some true) (hlen : zs.length ≤ 100) (B0 : Int) (hB0 : 0 ≤ B0) (hB1 : B0 ≤ 100000000) (d0 : List Int) :
  ∀ (m j : Nat) (d : List Int),j ≤ zs.length → zs.length < m + j → zId n x root B0 d0 zs j d → ∃ d' : List Int,qd n m (zs.map fun k : Nat => (k : Int)) x j d = some (.inl d') ∧ zId n x root B0 d0 zs zs.length d' := by
 intro m
 induction m with
 | zero => intro j d h1 h2; omega
 | succ m ih =>
  intro j d h1 h2 hI
  rw [qd]
  by_cases hj : j < zs.length
  ·have hjm : j < (zs.map fun k : Nat => (k : Int)).length := by simpa using hj
   obtain ⟨hk,hu⟩ := hz zs[j] (List.getElem_mem hj)
   obtain ⟨a,p,b,q,ha,hb,eA,eP,eB,eQ,hab,hp,hq,hp6,hq6⟩ := hx.ends hk
   have hk' : idx x.Ls ((zs[j] : Nat) : Int) = some x.Ls[zs[j]] := zB hk
   rw [tQ (show (j : Int) < ((zs.map fun k : Nat => (k : Int)).length : Int) by omega),cQ,zB hjm,bQ,List.getElem_map,hk',bQ,eA,eB,eQ,eP]
   obtain ⟨hl,hbd,hmon,hway,hdone⟩ := hI
   have e1 : EdN n x zs[j] b q x.Bs[b].Ps[q].Co a p := ⟨hk,hu,.inr ⟨eB,eQ,eA,eP⟩,hb,ha,by unfold zm; rw [zB hb,bQ,zB hq]; rfl⟩
   have e2 : EdN n x zs[j] a p x.Bs[a].Ps[p].Co b q := ⟨hk,hu,.inl ⟨eA,eP,eB,eQ⟩,ha,hb,by unfold zm; rw [zB ha,bQ,zB hp]; rfl⟩
   obtain ⟨_,_,c1,c1'⟩ := zBI hx ⟨_,_,_,e1⟩
   obtain ⟨_,_,c2,c2'⟩ := zBI hx ⟨_,_,_,e2⟩
   obtain ⟨d1,r1,l1,f1,g1⟩ := zIL n x d a b q _ (B0 + 2000 * j) (by omega) (by omega) hb hq rfl c1 c1' (by omega) hbd
   obtain ⟨d2,r2,l2,f2,g2⟩ := zIL n x d1 b a p _ (B0 + 2000 * j + 1000) (by omega) (by omega) ha hp rfl c2 c2' (by omega) fun i => (f1 i).1
   rw [r1,bQ,r2,bQ,vQ j]
   have mon : ∀ i,0 ≤ gd d i → 0 ≤ gd d2 i ∧ gd d2 i ≤ gd d i := fun i h0 => by
    have h1 := (f1 i).2.1 h0
    have h2 := (f2 i).2.1 h1.1
    omega
   have way1 : ∀ i,0 ≤ gd d1 i → q5 (Y6 n x) root i (gd d1 i) := fun i h0 => by
    rcases (f1 i).2.2 h0 with e | ⟨rfl,h1,e⟩
    ·rw [e]; exact hway i (by omega)
    ·rw [e]; exact .step a i _ _ (hway a h1) ⟨_,_,_,e1⟩
   refine ih (j + 1) d2 (by omega) (by omega) ⟨by omega,fun i => ?_,fun i h0 => ?_,fun i h0 => ?_,fun t k ht hkz a' b' c' p' q' he h0 => ?_⟩
   ·have := (f2 i).1; omega
   ·have h1 := hmon i h0
    have h2 := mon i h1.1
    omega
   ·rcases (f2 i).2.2 h0 with e | ⟨rfl,h1,e⟩
    ·rw [e]; exact way1 i (by omega)
    ·rw [e]; exact .step b i _ _ (way1 b h1) ⟨_,_,_,e2⟩
   ·by_cases htj : t < j
    ·have h1 := hdone t k htj hkz a' b' c' p' q' he h0
     have h2 := mon b' h1.1
     omega
    ·have htj : t = j := by omega
     subst htj
     rw [List.getElem?_eq_getElem hj] at hkz
     cases hkz
     have hm := hmon a' h0
     obtain ⟨_,_,he,hb',ha',hcost⟩ := he
     have port : ∀ (i : Nat) (hi : i < x.Bs.length) (q : Nat) (hq : q < x.Bs[i].Ps.length) (c : Int),(zm x i q).map (·.Co) = some c → x.Bs[i].Ps[q].Co = c := fun i hi q hq c h => by
      unfold zm at h
      rw [zB hi,bQ,zB hq] at h
      exact Option.some.inj h
     rcases he with ⟨h1,h2,h3,h4⟩ | ⟨h1,h2,h3,h4⟩
     ·have q1 : a = b' := by omega
      have q2 : (p : Int) = q' := by omega
      have q3 : b = a' := by omega
      subst q1; subst q2; subst q3
      have cc := port a ha p hp c' hcost
      have u1 := (f1 b).2.1 hm.1
      have u2 := g2 u1.1
      rw [cc] at u2
      omega
     ·have q1 : b = b' := by omega
      have q2 : (q : Int) = q' := by omega
      have q3 : a = a' := by omega
      subst q1; subst q2; subst q3
      have cc := port b hb q hq c' hcost
      have u1 := g1 hm.1
      rw [cc] at u1
      have u2 := (f2 b).2.1 u1.1
      omega
  ·have : j = zs.length := by omega
   subst this
   rw [dQ (show ¬ (zs.length : Int) < ((zs.map fun k : Nat => (k : Int)).length : Int) by simp),fQ]
   exact ⟨d,rfl,hI⟩
theorem zJe {n : Nat} (hn : 1048700 < n) {x : Net} (hx : zy n x) (root : Nat) (hr : root < x.Bs.length) (zs : List Nat) (hz : ∀ k ∈ zs,k < x.Ls.length ∧ za n x k = some true) (hall : ∀ k (hk : k < x.Ls.length),za n x k = some true → k ∈ zs) (hlen : zs.length ≤ 9)
  (hu : Z9 n x = some (zs.map fun k : Nat => (k : Int))) (d0 : List Int) (hl : d0.length = x.Bs.length) (h0 : ∀ i,gd d0 i = if i = root then 0 else -1) :
  ∃ d' : List Int,qx n n x 0 d0 = some (.inl d') ∧ d'.length = x.Bs.length ∧ (∀ i,gd d' i ≤ 1000000) ∧ ∀ i d,q5 (Y6 n x) root i d → q5 (Y6 n x) root i (gd d' i) ∧ gd d' i ≤ d := by
 have h6 := hx.2.2.1.2.1.2
 let F : List Int → List Int := fun d => match qd n n (zs.map fun k : Nat => (k : Int)) x 0 d with
  | some (.inl d') => d'
  | _ => d
 let f : Nat → List Int := fun t => Nat.rec d0 (fun _ d => F d) t
 have step : ∀ (t : Nat) (d : List Int),t ≤ 1000 → d.length = x.Bs.length → (∀ i,gd d i ≤ 20000 * t) → (∀ i,0 ≤ gd d i → q5 (Y6 n x) root i (gd d i)) →
   qd n n (zs.map fun k : Nat => (k : Int)) x 0 d = some (.inl (F d)) ∧ zId n x root (20000 * t) d zs zs.length (F d) := fun t d ht h1 h2 h3 => by
  obtain ⟨d',e,I⟩ := zME hx root zs hz (by omega) (20000 * t) (by omega) (by omega) d n 0 d (Nat.zero_le _) (by omega) ⟨h1,fun i => by have := h2 i; omega,fun i h => ⟨h,Int.le_refl _⟩,h3,fun t k ht => absurd ht (Nat.not_lt_zero t)⟩
  have e : qd n n (zs.map fun k : Nat => (k : Int)) x 0 d = some (.inl d') := e
  have hF : F d = d' := by show (match qd n n (zs.map fun k : Nat => (k : Int)) x 0 d with | some (.inl d') => d' | _ => d) = d'; rw [e]
  rw [hF]
  exact ⟨e,I⟩
 have inv : ∀ t,t ≤ 1000 → (f t).length = x.Bs.length ∧ (∀ i,gd (f t) i ≤ 20000 * t) ∧ ∀ i,0 ≤ gd (f t) i → q5 (Y6 n x) root i (gd (f t) i) := fun t => by
  induction t with
  | zero =>
   intro _
   refine ⟨hl,fun i => ?_,fun i h => ?_⟩
   ·show gd d0 i ≤ _; rw [h0]; split <;> omega
   ·have h : 0 ≤ gd d0 i := h
    show q5 _ root i (gd d0 i)
    rw [h0] at h ⊢
    by_cases hi : i = root
    ·subst hi; rw [if_pos rfl]; exact .start
    ·rw [if_neg hi] at h; omega
  | succ t ih =>
   intro ht
   obtain ⟨i1,i2,i3⟩ := ih (by omega)
   obtain ⟨_,p1,p2,p3,p4,_⟩ := step t (f t) (by omega) i1 i2 i3
   exact ⟨p1,fun i => by have := p2 i; show gd (F (f t)) i ≤ _; omega,p4⟩
 have pass : ∀ t,t ≤ 1000 → qd n n (zs.map fun k : Nat => (k : Int)) x 0 (f t) = some (.inl (f (t + 1))) ∧ zId n x root (20000 * t) (f t) zs zs.length (f (t + 1)) := fun t ht => by
  obtain ⟨i1,i2,i3⟩ := inv t ht
  exact step t (f t) ht i1 i2 i3
 have loop : ∀ m k : Nat,k ≤ x.Bs.length → x.Bs.length < m + k → qx n m x k (f k) = some (.inl (f x.Bs.length)) := fun m => by
  induction m with
  | zero => intro k h1 h2; omega
  | succ m ih =>
   intro k h1 h2
   rw [qx]
   by_cases hk : k < x.Bs.length
   ·rw [tQ (show (k : Int) < (x.Bs.length : Int) by omega),cQ,hu,bQ,(pass k (by omega)).1]
    simp only [bQ,YN]
    rw [vQ k]
    exact ih (k + 1) (by omega) (by omega)
   ·have : k = x.Bs.length := by omega
    subst this
    rw [dQ (show ¬ (x.Bs.length : Int) < (x.Bs.length : Int) by omega),fQ]
 refine ⟨f x.Bs.length,loop n 0 (Nat.zero_le _) (by omega),(inv _ (by omega)).1,fun i => by have := (inv x.Bs.length (by omega)).2.1 i; omega,?_⟩
 refine zKb x.Bs.length root hr (Y6 n x) (fun a b c h => by have := zBI hx h; exact ⟨this.1,this.2.1,this.2.2.1⟩) (fun t i => gd (f t) i) ?_ ?_ ?_ ?_
 ·show gd d0 root = 0; rw [h0,if_pos rfl]
 ·intro t i ht hi h; exact (pass t (by omega)).2.2.2.1 i h
 ·intro t i ht hi h; exact (inv t (by omega)).2.2 i h
 ·intro t a b c ht hw h
  obtain ⟨k,p,q,he⟩ := hw
  obtain ⟨j,hj,e⟩ := List.getElem_of_mem (hall k he.1 he.2.1)
  exact (pass t (by omega)).2.2.2.2.2 j k hj (by rw [List.getElem?_eq_getElem hj,e]) a b c p q he h
theorem zKn (n : Nat) (x : Net) (hN : x.Bs.length ≤ 1000) (hn : 1048700 < n) : ∃ d : List Int,ZX n n x 0 (List.replicate ((x.Bs.length : Int)).toNat (0 : Int)) = some (.inl d) ∧ d.length = x.Bs.length ∧ ∀ i,gd d i = -1 := by
 have hrl : (List.replicate ((x.Bs.length : Int)).toNat (0 : Int)).length = x.Bs.length := by simp
 have loop : ∀ (m k : Nat) (d : List Int),k ≤ x.Bs.length → x.Bs.length < m + k → d.length = x.Bs.length → (∀ i,i < k → gd d i = -1) → ∃ d' : List Int,ZX n m x k d = some (.inl d') ∧ d'.length = x.Bs.length ∧ ∀ i,i < x.Bs.length → gd d' i = -1 := fun m => by
  induction m with
  | zero => intro k d h1 h2; omega
  | succ m ih =>
   intro k d h1 h2 hd hg
   rw [ZX,hrl]
   by_cases hk : k < x.Bs.length
   ·rw [tQ (show (k : Int) < (x.Bs.length : Int) by omega),cQ,zE8 (by omega),bQ,vQ k,Int.toNat_natCast]
    refine ih (k + 1) _ (by omega) (by omega) (by rw [List.length_set,hd]) fun i hi => ?_
    rw [zGv (by omega)]
    by_cases h : i = k
    ·rw [if_pos h]
    ·rw [if_neg h]; exact hg i (by omega)
   ·have : k = x.Bs.length := by omega
    subst this
    rw [dQ (show ¬ (x.Bs.length : Int) < (x.Bs.length : Int) by omega),fQ]
    exact ⟨d,rfl,hd,hg⟩
 obtain ⟨d,e,l,g⟩ := loop n 0 _ (Nat.zero_le _) (by omega) hrl (fun i hi => absurd hi (Nat.not_lt_zero i))
 refine ⟨d,e,l,fun i => ?_⟩
 by_cases hi : i < x.Bs.length
 ·exact g i hi
 ·unfold gd
  rw [List.getD_eq_getElem?_getD,List.getElem?_eq_none (by omega)]
  rfl
theorem zLQ {n : Nat} (hn : 1048700 < n) {x : Net} (hx : zy n x) (root : Nat) (hr : root < x.Bs.length) (zs : List Nat) (hz : ∀ k ∈ zs,k < x.Ls.length ∧ za n x k = some true) (hall : ∀ k (hk : k < x.Ls.length),za n x k = some true → k ∈ zs) (hlen : zs.length ≤ 9)
  (hu : Z9 n x = some (zs.map fun k : Nat => (k : Int))) : ∃ K : Nat → Int,(∀ i,K i ≤ 1000000) ∧ (∀ i d,q5 (Y6 n x) root i d → q5 (Y6 n x) root i (K i) ∧ K i ≤ d) ∧ ∀ b : Nat,b < x.Bs.length → q9 n x b = some (root : Int) → q7 n x b = some (K b) := by
 have h6 := hx.2.2.1.2.1.2
 obtain ⟨d,e,l,g⟩ := zKn n x (by omega) hn
 obtain ⟨d',e',l',b',g'⟩ := zJe hn hx root hr zs hz hall hlen hu (d.set root 0) (by rw [List.length_set,l]) (fun i => by rw [zGv (by omega)]; split <;> first | rfl | exact g i)
 refine ⟨fun i => gd d' i,b',g',fun b hb hroot => ?_⟩
 unfold q7
 rw [hroot,bQ,dQ (show ¬ (root : Int) < 0 by omega),fQ,tQ (show (0 : Int) ≤ (x.Bs.length : Int) by omega),tQ (show (x.Bs.length : Int) ≤ 268435456 by omega),Bool.and_true,cQ,e]
 simp only [bQ,YL]
 rw [zE8 (by omega),bQ,Int.toNat_natCast,e']
 simp only [bQ,YM]
 rw [zE8 (by omega),bQ]
theorem zKB (n : Nat) (x : Net) (hl : x.Ls.length ≤ 1000) (hn : 1048700 < n) (b p : Int) : ∃ r : Int × Int × Bool,Jv n x b p = some r ∧ ((r.2.2 = true ∧ ∃ k,∃ hk : k < x.Ls.length,zBq x.Ls[k] b p r.1 r.2.1) ∨ (r.2.2 = false ∧ ∀ k (hk : k < x.Ls.length) j q,¬ zBq x.Ls[k] b p j q)) := by
 have loop : ∀ m j : Nat,j ≤ x.Ls.length → x.Ls.length < m + j → (∀ k (hk : k < x.Ls.length),k < j → ∀ i q,¬ zBq x.Ls[k] b p i q) →
   (∃ r : Int × Int × Bool,qI n m x b p j = some (.inr r) ∧ r.2.2 = true ∧ ∃ k,∃ hk : k < x.Ls.length,zBq x.Ls[k] b p r.1 r.2.1) ∨ (qI n m x b p j = some (.inl ()) ∧ ∀ k (hk : k < x.Ls.length) i q,¬ zBq x.Ls[k] b p i q) := fun m => by
  induction m with
  | zero => intro j h1 h2; omega
  | succ m ih =>
   intro j h1 h2 h3
   rw [qI]
   by_cases hj : j < x.Ls.length
   ·rw [tQ (show (j : Int) < (x.Ls.length : Int) by omega),cQ,zB hj,bQ]
    by_cases c1 : x.Ls[j].A = b ∧ x.Ls[j].P = p
    ·left
     rw [c1.1,beq_self_eq_true,cQ,c1.2,beq_self_eq_true,cQ]
     exact ⟨_,rfl,rfl,j,hj,.inl ⟨c1.1,c1.2,rfl,rfl⟩⟩
    ·have J : (bif x.Ls[j].A == b then (bif x.Ls[j].P == p then some (.inr (x.Ls[j].B,x.Ls[j].Q,true)) else Zl n (fun v => qI n m x b p v) x.Ls[j] b p j) else Zl n (fun v => qI n m x b p v) x.Ls[j] b p j) = Zl n (fun v => qI n m x b p v) x.Ls[j] b p j := by
      cases e1 : (x.Ls[j].A == b) with
      | false => rfl
      | true =>
       cases e2 : (x.Ls[j].P == p) with
       | false => rfl
       | true => exact absurd ⟨beq_iff_eq.1 e1,beq_iff_eq.1 e2⟩ c1
     rw [J]
     unfold Zl
     by_cases c2 : x.Ls[j].B = b ∧ x.Ls[j].Q = p
     ·left
      rw [c2.1,beq_self_eq_true,cQ,c2.2,beq_self_eq_true,cQ]
      exact ⟨_,rfl,rfl,j,hj,.inr ⟨c2.1,c2.2,rfl,rfl⟩⟩
     ·have J2 : ∀ z : Option (Unit ⊕ (Int × Int × Bool)),(bif x.Ls[j].B == b then (bif x.Ls[j].Q == p then some (.inr (x.Ls[j].A,x.Ls[j].P,true)) else z) else z) = z := fun z => by
       cases e1 : (x.Ls[j].B == b) with
       | false => rfl
       | true =>
        cases e2 : (x.Ls[j].Q == p) with
        | false => rfl
        | true => exact absurd ⟨beq_iff_eq.1 e1,beq_iff_eq.1 e2⟩ c2
      rw [J2,vQ j]
      refine ih (j + 1) (by omega) (by omega) fun k hk hkj i q he => ?_
      by_cases hkj' : k < j
      ·exact h3 k hk hkj' i q he
      ·have : k = j := by omega
       subst this
       rcases he with ⟨g1,g2,_⟩ | ⟨g1,g2,_⟩
       ·exact c1 ⟨g1,g2⟩
       ·exact c2 ⟨g1,g2⟩
   ·rw [dQ (show ¬ (j : Int) < (x.Ls.length : Int) by omega),fQ]
    exact .inr ⟨rfl,fun k hk i q he => h3 k hk (by omega) i q he⟩
 unfold Jv
 rcases loop n 0 (Nat.zero_le _) (by omega) (fun k hk h => absurd h (Nat.not_lt_zero k)) with ⟨r,e,h1,h2⟩ | ⟨e,h⟩
 ·rw [show qI n n x b p 0 = _ from e]
  exact ⟨r,rfl,.inl ⟨h1,h2⟩⟩
 ·rw [show qI n n x b p 0 = _ from e]
  exact ⟨_,rfl,.inr ⟨rfl,h⟩⟩
theorem zIv {n : Nat} {x : Net} (hx : zy n x) {k k' : Nat} (hk : k < x.Ls.length) (hk' : k' < x.Ls.length) {b p j q j' q' : Int} (h : zBq x.Ls[k] b p j q) (h' : zBq x.Ls[k'] b p j' q') : k' = k ∧ j' = j ∧ q' = q := by
 have used : qC b p x.Ls[k'] = true := QE.2 (h'.imp (fun e => ⟨e.1,e.2.1⟩) (fun e => ⟨e.1,e.2.1⟩))
 have e : k' = k := by
  by_cases e : k' = k
  ·exact e
  ·obtain ⟨o1,o2⟩ := hx.other hk hk' (fun h => e h.symm)
   rcases h with ⟨g1,g2,_⟩ | ⟨g1,g2,_⟩
   ·rw [g1,g2,used] at o1; cases o1
   ·rw [g1,g2,used] at o2; cases o2
 subst e
 obtain ⟨a,_,c,_,_,_,eA,_,eB,_,hac,_⟩ := hx.ends hk
 refine ⟨rfl,?_⟩
 rcases h with ⟨g1,g2,g3,g4⟩ | ⟨g1,g2,g3,g4⟩ <;> rcases h' with ⟨f1,f2,f3,f4⟩ | ⟨f1,f2,f3,f4⟩
 ·exact ⟨by omega,by omega⟩
 ·omega
 ·omega
 ·exact ⟨by omega,by omega⟩
theorem zLn {n : Nat} (hn : 1048700 < n) {x : Net} (hx : zy n x) : ∃ (R : Nat → Nat) (K : Nat → Nat → Int),(∀ r i,K r i ≤ 1000000) ∧ (∀ b (hb : b < x.Bs.length),∃ hr : R b < x.Bs.length,q8 n x b = some x.Bs[R b].Id ∧ x.Bs[R b].Id ≤ x.Bs[b].Id ∧ q7 n x b = some (K (R b) b) ∧ (∃ d,q5 (Y6 n x) (R b) b d) ∧ ∀ i d,q5 (Y6 n x) (R b) i d → q5 (Y6 n x) (R b) i (K (R b) i) ∧ K (R b) i ≤ d) ∧
  ∀ k i p w j q,EdN n x k i p w j q → R j = R i := by
 have h6 := hx.2.2.1.2.1.2
 have h9 := hx.2.2.1.2.2.1
 have upE : ∀ k,∃ b : Bool,∀ hk : k < x.Ls.length,za n x k = some b := fun k => by
  by_cases hk : k < x.Ls.length
  ·obtain ⟨p0,q0,_,_,_,_,u2,_⟩ := hx.linkV hk
   exact ⟨p0.Up,fun _ => u2⟩
  ·exact ⟨false,fun h => absurd h hk⟩
 obtain ⟨U,hU⟩ := Classical.skolem.1 upE
 generalize hzs : (List.range' 0 x.Ls.length).filter U = zs
 have hu : Z9 n x = some (zs.map fun k : Nat => (k : Int)) := by
  unfold Z9
  rw [show ZU n n x 0 [] = _ from zGF hx U (fun k hk => hU k hk) n 0 [] (Nat.zero_le _) (by omega) (Nat.le_refl _)]
  simp only [bQ,Yk,List.nil_append,Nat.sub_zero,hzs]
 have hz : ∀ k ∈ zs,k < x.Ls.length ∧ za n x k = some true := fun k hk => by
  rw [← hzs,List.mem_filter,List.mem_range'] at hk
  obtain ⟨⟨i,hi,e⟩,h2⟩ := hk
  have hk' : k < x.Ls.length := by omega
  exact ⟨hk',by rw [hU k hk',h2]⟩
 have hall : ∀ k (hk : k < x.Ls.length),za n x k = some true → k ∈ zs := fun k hk h => by
  rw [← hzs,List.mem_filter,List.mem_range']
  refine ⟨⟨k,hk,by omega⟩,?_⟩
  rw [hU k hk] at h
  exact Option.some.inj h
 have hzl : zs.length ≤ 9 := by
  have := List.length_filter_le U (List.range' 0 x.Ls.length)
  rw [hzs,List.length_range'] at this
  omega
 have setE : ∀ b,∃ f : Nat → Bool,b < x.Bs.length → YO n x b (zs.map fun k : Nat => (k : Int)) = some (((List.range' 0 x.Bs.length).filter f).map fun j : Nat => (j : Int)) ∧ f b = true ∧ (∀ i j,zEF x (zs.map fun k : Nat => (k : Int)) i j → (f i = true ↔ f j = true)) ∧ ∀ S : Nat → Prop,(∀ i j,zEF x (zs.map fun k : Nat => (k : Int)) i j → (S i ↔ S j)) → S b → ∀ j,f j = true → S j := fun b => by
  by_cases hb : b < x.Bs.length
  ·obtain ⟨f,h⟩ := zGI n x b (zs.map fun k : Nat => (k : Int)) hb (by omega) (by omega) (by rw [List.length_map]; omega) hn
   exact ⟨f,fun _ => h⟩
  ·exact ⟨fun _ => false,fun h => absurd h hb⟩
 obtain ⟨f,hf⟩ := Classical.skolem.1 setE
 have edge : ∀ k i p w j q,EdN n x k i p w j q → i < x.Bs.length ∧ j < x.Bs.length ∧ (zEF x (zs.map fun k : Nat => (k : Int)) i j ∨ zEF x (zs.map fun k : Nat => (k : Int)) j i) := fun k i p w j q he => by
  obtain ⟨hk,hu,he,hi,hj,_⟩ := he
  have hm : ((k : Nat) : Int) ∈ zs.map fun k : Nat => (k : Int) := List.mem_map.2 ⟨k,hall k hk hu,rfl⟩
  refine ⟨hi,hj,?_⟩
  rcases he with ⟨g1,_,g3,_⟩ | ⟨g1,_,g3,_⟩
  ·exact .inl ⟨_,hm,_,zB hk,g1,g3,hi,hj⟩
  ·exact .inr ⟨_,hm,_,zB hk,g3,g1,hj,hi⟩
 have same : ∀ b c,b < x.Bs.length → c < x.Bs.length → f b c = true → ∀ j,f b j = true ↔ f c j = true := fun b c hb hc h => by
  obtain ⟨_,b1,b2,b3⟩ := hf b hb
  obtain ⟨_,c1,c2,c3⟩ := hf c hc
  have back : f c b = true := by
   cases e : f c b with
   | true => rfl
   | false =>
    have := b3 (fun j => f b j = true ∧ ¬ f c j = true) (fun i j hl => and_congr (b2 i j hl) (not_congr (c2 i j hl))) ⟨b1,by rw [e]; exact Bool.false_ne_true⟩ c h
    exact absurd c1 this.2
  exact fun j => ⟨fun hj => b3 (fun j => f c j = true) c2 back j hj,fun hj => c3 (fun j => f b j = true) b2 h j hj⟩
 have rootE : ∀ b,∃ r,∀ hb : b < x.Bs.length,∃ hr : r < x.Bs.length,f b r = true ∧ q9 n x b = some (r : Int) ∧ q8 n x b = some x.Bs[r].Id ∧ x.Bs[r].Id ≤ x.Bs[b].Id := fun b => by
  by_cases hb : b < x.Bs.length
  ·obtain ⟨j1,j2,_,_⟩ := hf b hb
   have hmem : ∀ j,j ∈ (List.range' 0 x.Bs.length).filter (f b) ↔ j < x.Bs.length ∧ f b j = true := fun j => by
    rw [List.mem_filter,List.mem_range']
    constructor
    ·rintro ⟨⟨i,hi,e⟩,h2⟩; exact ⟨by omega,h2⟩
    ·rintro ⟨h1,h2⟩; exact ⟨⟨j,h1,by omega⟩,h2⟩
   obtain ⟨r,hr,r1,r2,r3,r4⟩ := zFA n x b _ ((List.range' 0 x.Bs.length).filter (f b)) hu j1 (by
    have := List.length_filter_le (f b) (List.range' 0 x.Bs.length)
    rw [List.length_range'] at this
    omega) hn (fun j hj => ((hmem j).1 hj).1) (fun h => by
    have := (hmem b).2 ⟨hb,j2⟩
    rw [h] at this
    cases this)
   exact ⟨r,fun _ => ⟨hr,((hmem r).1 r1).2,r2,r3,r4 b hb ((hmem b).2 ⟨hb,j2⟩)⟩⟩
  ·exact ⟨0,fun h => absurd h hb⟩
 obtain ⟨R,hR⟩ := Classical.skolem.1 rootE
 have distE : ∀ r,∃ K : Nat → Int,(∀ i,K i ≤ 1000000) ∧ (r < x.Bs.length → (∀ i d,q5 (Y6 n x) r i d → q5 (Y6 n x) r i (K i) ∧ K i ≤ d) ∧ ∀ b : Nat,b < x.Bs.length → q9 n x b = some (r : Int) → q7 n x b = some (K b)) := fun r => by
  by_cases hr : r < x.Bs.length
  ·obtain ⟨K,k0,k1,k2⟩ := zLQ hn hx r hr zs hz hall hzl hu
   exact ⟨K,k0,fun _ => ⟨k1,k2⟩⟩
  ·exact ⟨fun _ => 0,fun _ => (show (0 : Int) ≤ 1000000 by decide),fun h => absurd h hr⟩
 obtain ⟨K,hK⟩ := Classical.skolem.1 distE
 refine ⟨R,K,fun r i => (hK r).1 i,fun b hb => ?_,fun k i p w j q he => ?_⟩
 ·obtain ⟨hr,r1,r2,r3,r4⟩ := hR b hb
  obtain ⟨k1,k2⟩ := (hK (R b)).2 hr
  refine ⟨hr,r3,r4,k2 b hb r2,?_,k1⟩
  obtain ⟨_,c1,c2,c3⟩ := hf (R b) hr
  have hb' : f (R b) b = true := (same b (R b) hb hr r1 b).1 (hf b hb).2.1
  refine c3 (fun j => ∃ d,q5 (Y6 n x) (R b) j d) (fun i j hl => ?_) ⟨0,.start⟩ b hb'
  obtain ⟨z,hzm,lk,hlk,hA,hB,hi,hj⟩ := hl
  obtain ⟨k,hkz,rfl⟩ := List.mem_map.1 hzm
  obtain ⟨hk,hup⟩ := hz k hkz
  rw [zB hk] at hlk
  cases hlk
  obtain ⟨a,p,c,q,ha,hc,eA,eP,eB,eQ,hac,hp,hq,_⟩ := hx.ends hk
  have q1 : a = i := by omega
  have q2 : c = j := by omega
  subst q1; subst q2
  have e1 : EdN n x k c q x.Bs[c].Ps[q].Co a p := ⟨hk,hup,.inr ⟨eB,eQ,eA,eP⟩,hc,ha,by unfold zm; rw [zB hc,bQ,zB hq]; rfl⟩
  have e2 : EdN n x k a p x.Bs[a].Ps[p].Co c q := ⟨hk,hup,.inl ⟨eA,eP,eB,eQ⟩,ha,hc,by unfold zm; rw [zB ha,bQ,zB hp]; rfl⟩
  exact ⟨fun ⟨d,h⟩ => ⟨_,.step a c d _ h ⟨_,_,_,e1⟩⟩,fun ⟨d,h⟩ => ⟨_,.step c a d _ h ⟨_,_,_,e2⟩⟩⟩
 ·obtain ⟨hi,hj,hl⟩ := edge k i p w j q he
  have hij : f i j = true := by
   obtain ⟨_,c1,c2,_⟩ := hf i hi
   rcases hl with hl | hl
   ·exact (c2 i j hl).1 c1
   ·exact (c2 j i hl).2 c1
  obtain ⟨hr,_,r2,_⟩ := hR i hi
  obtain ⟨hr',_,r2',_⟩ := hR j hj
  have e : q9 n x j = q9 n x i := by
   unfold q9
   rw [hu,bQ,bQ,(hf i hi).1,(hf j hj).1,bQ,bQ]
   have : (List.range' 0 x.Bs.length).filter (f j) = (List.range' 0 x.Bs.length).filter (f i) := List.filter_congr fun z _ => by
    exact Bool.eq_iff_iff.2 (same i j hi hj hij z).symm
   rw [this]
  rw [r2,r2'] at e
  have := Option.some.inj e
  omega
def zIc (n : Nat) (x : Net) (K : Nat → Int) (i k : Nat) (y : Int) : Prop :=
 (∀ p : Nat,p < k → ∀ kk c a q,EdN n x kk i p c a q → 0 ≤ y ∧ y ≤ K a + c) ∧ (y = -1 ∨ 0 ≤ y ∧ ∃ a c,Y6 n x a i c ∧ y = K a + c)
theorem zKc {n : Nat} (hn : 1048700 < n) {x : Net} (zs : List Event) (hx : zy n x) {i : Nat} (hi : i < x.Bs.length) (K : Nat → Int) (hK : ∀ a,K a ≤ 1000000) (r6 : Int)
  (hnb : ∀ kk p c a q,EdN n x kk i p c a q → q7 n x a = some (K a) ∧ 0 ≤ K a ∧ q8 n x a = some r6) :
  ∀ (m k : Nat) (y : Int),k ≤ x.Bs[i].Ps.length → x.Bs[i].Ps.length < m + k → zIc n x K i k y → ∃ y',z7 n m (x,zs) r6 i k y = some (.inl y') ∧ zIc n x K i x.Bs[i].Ps.length y' := by
 have h6 := hx.2.2.1.2.1.2
 have h9 := hx.2.2.1.2.2.1
 have s := (hx.br hi).2.2
 have qs : x.Bs[i].Name.size + x.Bs[i].Ps.length + x.Bs[i].F.length + x.Bs[i].V.sz = x.Bs[i].sz := rfl
 intro m
 induction m with
 | zero => intro k y h1 h2; omega
 | succ m ih =>
  intro k y h1 h2 hB
  rw [z7]
  simp only
  rw [zB hi,bQ]
  by_cases hk : k < x.Bs[i].Ps.length
  ·rw [tQ (show (k : Int) < (x.Bs[i].Ps.length : Int) by omega),cQ,vQ k]
   obtain ⟨⟨a',q,ok⟩,e1,e2⟩ := zKB n x (by omega) hn i k
   rw [e1,bQ]
   have hport : ∀ kk c a q,EdN n x kk i k c a q → c = x.Bs[i].Ps[k].Co := fun kk c a q he => by
    have := he.2.2.2.2.2
    unfold zm at this
    rw [zB hi,bQ,zB hk] at this
    exact (Option.some.inj this).symm
   have skip : (∀ kk c a q,¬ EdN n x kk i k c a q) → zIc n x K i (k + 1) y := fun hno => ⟨fun p hp kk c a q he => by
    by_cases hpk : p < k
    ·exact hB.1 p hpk kk c a q he
    ·have : p = k := by omega
     subst this
     exact absurd he (hno kk c a q),hB.2⟩
   rcases e2 with ⟨ho,kk,hkk,hends⟩ | ⟨ho,hno⟩
   ·simp only at ho hends
    subst ho
    simp only [nQ,fQ]
    rw [zB hk,bQ]
    obtain ⟨p0,q0,l1,l2,l3,_,l5,_⟩ := hx.linkV hkk
    have upk : za n x kk = some x.Bs[i].Ps[k].Up := by
     rw [l5]
     rcases hends with ⟨g1,g2,_⟩ | ⟨g1,g2,_⟩
     ·rw [g1,g2] at l1
      unfold zm at l1
      rw [zB hi,bQ,zB hk] at l1
      rw [Option.some.inj l1]
     ·rw [g1,g2] at l2
      unfold zm at l2
      rw [zB hi,bQ,zB hk] at l2
      rw [l3,Option.some.inj l2]
    cases hup : x.Bs[i].Ps[k].Up with
    | false =>
     simp only [Bool.not_false,cQ]
     refine ih (k + 1) y (by omega) (by omega) (skip fun kk' c a q' he => ?_)
     obtain ⟨hk',hu',he',_⟩ := he
     obtain ⟨rfl,_⟩ := zIv hx hkk hk' hends he'
     rw [upk,hup] at hu'
     cases hu'
    | true =>
     simp only [nQ,fQ]
     rw [hup] at upk
     obtain ⟨a,ea,ha⟩ : ∃ a : Nat,a' = a ∧ a < x.Bs.length := by
      obtain ⟨u,_,v,_,hu,hv,eA,_,eB,_⟩ := hx.ends hkk
      rcases hends with ⟨_,_,g3,_⟩ | ⟨_,_,g3,_⟩
      ·exact ⟨v,by omega,hv⟩
      ·exact ⟨u,by omega,hu⟩
     subst ea
     have he : EdN n x kk i k x.Bs[i].Ps[k].Co a q := ⟨hkk,upk,hends,hi,ha,by unfold zm; rw [zB hi,bQ,zB hk]; rfl⟩
     obtain ⟨n1,n2,n3⟩ := hnb _ _ _ _ _ he
     have hw : Y6 n x a i x.Bs[i].Ps[k].Co := ⟨_,_,_,he⟩
     obtain ⟨_,_,c0,c1⟩ := zBI hx hw
     have := hK a
     have one : ∀ kk' c b q',EdN n x kk' i k c b q' → b = a ∧ c = x.Bs[i].Ps[k].Co := fun kk' c b q' h => by
      obtain ⟨_,o2,_⟩ := zIv hx hkk h.1 hends h.2.2.1
      exact ⟨by omega,hport _ _ _ _ h⟩
     rw [n1,bQ,wQ (z := K a + x.Bs[i].Ps[k].Co)]
     simp only [Za,n3,bQ,bne_self_eq_false,fQ,vQ k]
     have upd : ∀ y',0 ≤ y' → y' ≤ K a + x.Bs[i].Ps[k].Co → (y' = y ∨ (y < 0 ∨ y' ≤ y) ∧ y' = K a + x.Bs[i].Ps[k].Co) → zIc n x K i (k + 1) y' := fun y' h0 hle h => ⟨fun p hp kk' c b q' he' => by
      by_cases hpk : p < k
      ·have := hB.1 p hpk kk' c b q' he'
       omega
      ·have : p = k := by omega
       subst this
       obtain ⟨rfl,rfl⟩ := one _ _ _ _ he'
       exact ⟨h0,hle⟩,by
      rcases h with rfl | ⟨_,h⟩
      ·exact hB.2
      ·exact .inr ⟨h0,a,_,hw,h⟩⟩
     by_cases c2 : y < 0
     ·rw [tQ c2,cQ]
      exact ih (k + 1) _ (by omega) (by omega) (upd _ (by omega) (Int.le_refl _) (.inr ⟨.inl c2,rfl⟩))
     ·rw [dQ c2,fQ]
      by_cases c3 : K a + x.Bs[i].Ps[k].Co < y
      ·rw [tQ c3,cQ]
       exact ih (k + 1) _ (by omega) (by omega) (upd _ (by omega) (Int.le_refl _) (.inr ⟨.inr (by omega),rfl⟩))
      ·rw [dQ c3,fQ]
       exact ih (k + 1) _ (by omega) (by omega) (upd _ (by omega) (by omega) (.inl rfl))
   ·simp only at ho hno
    subst ho
    simp only [Bool.not_false,cQ]
    exact ih (k + 1) y (by omega) (by omega) (skip fun kk' c a q' he => hno _ he.1 _ _ he.2.2.1)
  ·have : k = x.Bs[i].Ps.length := by omega
   subst this
   rw [dQ (show ¬ (x.Bs[i].Ps.length : Int) < (x.Bs[i].Ps.length : Int) by omega),fQ]
   exact ⟨y,rfl,hB⟩
theorem zDy {n : Nat} (hn : 1048700 < n) {x : Net} (hx : zy n x) (zs : List Event) : ∀ m k : Nat,k ≤ x.Bs.length → x.Bs.length < m + k → qj n m (x,zs) k = some (.inl ()) := by
 have h6 := hx.2.2.1.2.1.2
 obtain ⟨R,K,k0,hR,hE⟩ := zLn hn hx
 intro m
 induction m with
 | zero => intro k h1 h2; omega
 | succ m ih =>
  intro k h1 h2
  rw [qj]
  simp only
  by_cases hk : k < x.Bs.length
  ·obtain ⟨hr,r1,r2,r3,r4,r5⟩ := hR k hk
   have s := (hx.br hk).2.2
   have qs : x.Bs[k].Name.size + x.Bs[k].Ps.length + x.Bs[k].F.length + x.Bs[k].V.sz = x.Bs[k].sz := rfl
   have s' := (hx.br hr).2.2
   have qs' : x.Bs[R k].Name.size + x.Bs[R k].Ps.length + x.Bs[R k].F.length + x.Bs[R k].V.sz = x.Bs[R k].sz := rfl
   obtain ⟨_,_,id1,_⟩ := zt n _ (by omega) (hx.br hr).1
   have hW : ∀ a b c,Y6 n x a b c → a < x.Bs.length ∧ b < x.Bs.length ∧ 1 ≤ c := fun a b c h => by have := zBI hx h; exact ⟨this.1,this.2.1,this.2.2.1⟩
   have nbr : ∀ kk p c a q,EdN n x kk k p c a q → q7 n x a = some (K (R k) a) ∧ 0 ≤ K (R k) a ∧ q8 n x a = some x.Bs[R k].Id ∧ ∃ d,q5 (Y6 n x) (R k) a d := fun kk p c a q he => by
    obtain ⟨hr',t1,_,t3,⟨d,t4⟩,_⟩ := hR a he.2.2.2.2.1
    have e := hE _ _ _ _ _ _ he
    have t1' : q8 n x a = some x.Bs[R k].Id := by rw [t1]; simp only [e]
    rw [e] at t3 t4
    exact ⟨t3,((r5 a d t4).1.nnT hr hW).1,t1',d,t4⟩
   rw [tQ (show (k : Int) < (x.Bs.length : Int) by omega),cQ,r3,bQ,r1,bQ]
   obtain ⟨y,e1,b1,b2⟩ := zKc hn zs hx hk (K (R k)) (k0 _) x.Bs[R k].Id (fun kk p c a q he => ⟨(nbr _ _ _ _ _ he).1,(nbr _ _ _ _ _ he).2.1,(nbr _ _ _ _ _ he).2.2.1⟩) n 0 (-1) (Nat.zero_le _) (by omega) ⟨fun p hp => absurd hp (Nat.not_lt_zero p),.inl rfl⟩
   rw [show z7 n n (x,zs) x.Bs[R k].Id k 0 (-1) = _ from e1]
   simp only [bQ,Qo]
   obtain ⟨d,hd⟩ := r4
   obtain ⟨w1,w2,w3⟩ := zLF hr hW r5 hd
   rw [zB hk,bQ,vQ k]
   have gt : decide (x.Bs[R k].Id > x.Bs[k].Id) = false := dQ (by omega)
   have z0 : (x.Bs[R k].Id == 0) = false := by rw [beq_eq_false_iff_ne]; omega
   by_cases hkr : k = R k
   ·have e0 := w1 hkr
    have eid : x.Bs[R k].Id = x.Bs[k].Id := by simp only [← hkr]
    rw [eid] at gt z0 ⊢
    rw [e0]
    simp only [beq_self_eq_true,bne_self_eq_false,cQ,fQ,gt,z0]
    exact ih (k + 1) (by omega) (by omega)
   ·have hne : x.Bs[R k].Id ≠ x.Bs[k].Id := fun h => by
     rcases Nat.lt_or_gt_of_ne hkr with h' | h'
     ·exact ((hx.2.2.1.1 (R k) hr hr).2.1 k h') h.symm
     ·exact ((hx.2.2.1.1 k hk hk).2.1 (R k) h') h
    obtain ⟨a,c,hw,hda,hKe⟩ := w2 hkr
    obtain ⟨kk,p,q,he⟩ := id hw
    obtain ⟨q',rfl,hq',_⟩ : ∃ q' : Nat,q = q' ∧ ∃ hq : q' < x.Bs[k].Ps.length,x.Bs[k].Ps[q'].Co = c := by
     obtain ⟨pt,g1,g2⟩ := Option.map_eq_some_iff.1 he.2.2.2.2.2
     obtain ⟨q',e,hq,e'⟩ := zG9 hk g1
     exact ⟨q',e,hq,by rw [e',g2]⟩
    have u1 := b1 q' hq' _ _ _ _ he
    have e2 : K (R k) k = y := by
     rcases b2 with h | ⟨h0,a2,c2,hw2,h⟩
     ·omega
     ·obtain ⟨kk2,p2,q2,he2⟩ := id hw2
      have := w3 a2 c2 hw2 (nbr _ _ _ _ _ he2).2.2.2
      omega
    rw [beq_eq_false_iff_ne.2 hne,bne_iff_ne.2 hne,e2]
    simp only [bne_self_eq_false,cQ,fQ,gt,z0]
    exact ih (k + 1) (by omega) (by omega)
  ·rw [dQ (show ¬ (k : Int) < (x.Bs.length : Int) by omega),fQ]
theorem zDz (x0 : List Int) (w0 : Q7 zIq x0) : ∃ n,JU n x0 = some true := by
 refine ⟨1048800,?_⟩
 simp only [JU,zDN,bQ]
 by_cases hbig : (x0.length : Int) > 1048576
 ·rw [tQ hbig]; rfl
 rw [dQ hbig,fQ]
 obtain ⟨y,zs,e,hy,_⟩ := zGU x0 (by omega)
 have h6 := hy.2.2.1.2.1.2
 rw [e,bQ,show qj 1048800 1048800 (y,zs) 0 = _ from zDy (by omega) hy zs 1048800 0 (Nat.zero_le _) (by omega)]
 rfl
end Go.Proofs.Ytajadnlejdpceaa.Tw
