import Derived.Test.YtajadnlejdpceaaGreatTwATP0
import Derived.Test.YtajadnlejdpceaaGreatTlPlain
set_option linter.unusedVariables false
set_option linter.unusedSimpArgs false
set_option maxRecDepth 100000
set_option maxHeartbeats 1000000
namespace Go.Proofs.YtajadnlejdpceaaGreat.Tw
open Go Go.TL Go.Proofs
theorem zIL (n : Nat) (id : Int) (l : List Pt) (p : Int) (h0 : 1 ≤ id) (h1 : id ≤ 99) (hl : l.length ≤ 1048576) (hn : l.length < n) (p0 : 0 ≤ p) (p7 : p ≤ 7) : ∃ v,qZ n id l p = some v ∧ zm n v = some true ∧ v.wf := by
 obtain ⟨⟨v,q⟩,e⟩ := zBH n id l hl hn
 have e' := e
 unfold ZI at e'
 obtain ⟨o,ho,e'⟩ := bind_some e'
 obtain ⟨z2,z8,z9,z10,rfl,hr⟩ := zCP n id l n _ _ _ _ _ _ _ _ _ _ o ⟨⟨h0,h1⟩,⟨by omega,by omega⟩,⟨by omega,by omega⟩⟩ ho
 cases e'
 have hok : zm n (⟨z8,z9,z10,id,p⟩ : Vec) = some true := (zDW n _).2 ⟨hr.1,hr.2.1,hr.2.2,⟨h0,h1⟩,⟨p0,p7⟩⟩
 refine ⟨⟨z8,z9,z10,id,p⟩,?_,hok,zFF n _ hok⟩
 unfold qZ
 rw [e]
 rfl
theorem zFk (n : Nat) (x : zA) (hx : x.sz ≤ 1048576) (h : zR n x = some true) : x.sz ≤ 40 := by
 have hs : x.Name.size + x.Ps.length + x.F.length + x.V.sz = x.sz := rfl
 have hs2 : x.V.Rows.length + x.V.Pv.length = x.V.sz := rfl
 obtain ⟨p1,p2,p3,p4,p5,p6,p7,_⟩ := qK n x (by omega) h
 have h1 := (zBg n x.F (by omega) p6).1
 have h2 := zHj n x.V _ p7
 omega
def zx (n : Nat) (x : Net) : Prop := x.wf ∧ Big x ∧ zF2 n x ∧ zLQ n x
theorem zx.ok {n : Nat} {x : Net} (hn : 1048700 < n) (h : zx n x) : Zv n x = some true ∧ QQ n x = some true := by
 obtain ⟨b,e1,e2,e3⟩ := zEH n x h.1 h.2.1 hn
 rw [e3.2 ⟨h.2.2.1,h.2.2.2⟩] at e1 e2
 exact ⟨e1,e2⟩
theorem Big.of {x : Net} (h : x.sz ≤ 1048576) : Big x := by
 have hs : (x.Bs.length + zAV zA.sz x.Bs) + x.Ls.length + x.Said.length = x.sz := rfl
 exact ⟨by omega,fun a ha => by have := zDP (sz := zA.sz) ha; omega,by omega,by omega⟩
theorem zx.of {n : Nat} {x : Net} (hn : 1048700 < n) (wx : x.wf) (h : Big x) (e : Zv n x = some true) : zx n x := by
 obtain ⟨b,e1,_,e3⟩ := zEH n x wx h hn
 rw [e] at e1
 have := e3.1 (Option.some.inj e1).symm
 exact ⟨wx,h,this.1,this.2⟩
theorem zx.br {n : Nat} {x : Net} (h : zx n x) {i : Nat} (hi : i < x.Bs.length) : zR n x.Bs[i] = some true ∧ x.Bs[i].wf ∧ x.Bs[i].sz ≤ 40 := by
 have hok := (h.2.2.1.1 i hi hi).1
 exact ⟨hok,h.1.1.2 _ (List.getElem_mem hi),zFk n _ (h.2.1.2.1 _ (List.getElem_mem hi)) hok⟩
theorem zKY {α : Type} {sz : α → Nat} {c : Nat} : ∀ (xs : List α),(∀ v ∈ xs,sz v ≤ c) → zAV sz xs ≤ c * xs.length
 | [],_ => Nat.zero_le _
 | x :: xs,h => by
  have h1 := h x (by simp)
  have h2 := zKY xs fun v hv => h v (by simp [hv])
  simp only [zAV,List.length_cons,Nat.mul_succ]
  omega
theorem zx.sz {n : Nat} {x : Net} (h : zx n x) : x.sz ≤ 400 := by
 have hs : (x.Bs.length + zAV zA.sz x.Bs) + x.Ls.length + x.Said.length = x.sz := rfl
 have h1 := zKY (sz := zA.sz) (c := 40) x.Bs fun v hv => by
  obtain ⟨i,hi,rfl⟩ := List.getElem_of_mem hv
  exact (h.br hi).2.2
 have h2 := h.2.2.1.2.1
 have h3 := h.2.2.1.2.2.1
 have h4 := h.2.2.1.2.2.2.1
 omega
theorem JA {α : Type} {xs : List α} {i : Nat} (hi : i < xs.length) (v : α) (b : Int) : idx (xs.set i v) b = if b = (i : Int) then some v else idx xs b := by
 by_cases hb : b = (i : Int)
 ·subst hb
  rw [if_pos rfl,zC (by simpa using hi)]
  simp
 ·rw [if_neg hb]
  unfold idx
  by_cases h0 : 0 ≤ b
  ·rw [if_pos h0,if_pos h0,List.getElem?_set_ne (by omega)]
  ·rw [if_neg h0,if_neg h0]
theorem zCC {bs : List zA} {ls : List Link} {ss ss' : List Say} {i : Nat} (hi : i < bs.length) (v : zA) (b p : Int) : zj ⟨bs.set i v,ls,ss⟩ b p = if b = (i : Int) then idx v.Ps p else zj ⟨bs,ls,ss'⟩ b p := by
 unfold zj
 rw [JA hi]
 split <;> rfl
def zAu (x : Net) (b p : Int) : Option Bool := (zj x b p).map (·.Up)
theorem zIl {n : Nat} {x : Net} (hx : zx n x) (bs : List zA) (ss : List Say) (hb : bs.length = x.Bs.length)
  (each : ∀ i (hi : i < x.Bs.length) (hi' : i < bs.length),zR n bs[i] = some true ∧ bs[i].wf ∧ bs[i].sz ≤ 1048576 ∧ bs[i].Id = x.Bs[i].Id ∧ bs[i].Ps.length = x.Bs[i].Ps.length ∧ ∀ p (hp : p < bs[i].Ps.length),bs[i].Ps[p].Has = true → x.Ls.any (zf i p) = true)
  (up : ∀ l ∈ x.Ls,zAu ⟨bs,x.Ls,ss⟩ l.A l.P = zAu ⟨bs,x.Ls,ss⟩ l.B l.Q) (s40 : ss.length ≤ 40) (said : ∀ s ∈ ss,zD2 n x s ∧ s.wf) : zx n ⟨bs,x.Ls,ss⟩ := by
 obtain ⟨wx,⟨g1,g2,g3,g4⟩,⟨c1,c2,c3,c4,c5⟩,c6⟩ := hx
 have hm : maxLen = 9223372036854775807 := by decide
 refine ⟨⟨⟨by simp only; omega,fun v hv => ?_⟩,wx.2.1,⟨by simp only; omega,fun s hs => (said s hs).2⟩,trivial⟩,⟨by simp only; omega,fun v hv => ?_,g3,by simp only; omega⟩,⟨fun k hk hk' => ?_,by simp only; omega,c3,s40,fun k hk => ?_⟩,fun s hs => (said s hs).1⟩
 ·obtain ⟨i,hi,rfl⟩ := List.getElem_of_mem hv
  have hi : i < bs.length := hi
  exact (each i (by omega) hi).2.1
 ·obtain ⟨i,hi,rfl⟩ := List.getElem_of_mem hv
  have hi : i < bs.length := hi
  exact (each i (by omega) hi).2.2.1
 ·have hk' : k < bs.length := hk'
  obtain ⟨e1,e2,e3,e4,e5,e6⟩ := each k (by omega) hk'
  refine ⟨e1,fun j hj => ?_,fun p hp hh => e6 p hp hh⟩
  have := (c1 k (by omega) (by omega)).2.1 j hj
  have f := (each j (by omega) (by omega)).2.2.2.1
  simp only at this ⊢
  rw [f,e4]; exact this
 ·obtain ⟨⟨d1,p,q,d2,d3,d4⟩,d5⟩ := c5 k hk
  have u := up x.Ls[k] (List.getElem_mem hk)
  have ex : ∀ {b p : Int} {v : Pt},zj x b p = some v → ∃ w,zj ⟨bs,x.Ls,ss⟩ b p = some w := fun {b p v} h => by
   obtain ⟨a,h1,h2⟩ := YG h
   obtain ⟨i0,i1⟩ := Yb h1
   obtain ⟨i,rfl⟩ := Int.eq_ofNat_of_zero_le i0
   have hi : i < x.Bs.length := Int.ofNat_lt.1 i1
   rw [zC hi] at h1
   obtain rfl := Option.some.inj h1
   obtain ⟨j0,j1⟩ := Yb h2
   obtain ⟨j,rfl⟩ := Int.eq_ofNat_of_zero_le j0
   have := (each i hi (by omega)).2.2.2.2.1
   exact ⟨_,by unfold zj; simp only; rw [zC (show i < bs.length by omega),Option.bind_some,zC (show j < bs[i].Ps.length by omega)]⟩
  obtain ⟨p',e1⟩ := ex d2
  obtain ⟨q',e2⟩ := ex d3
  refine ⟨⟨d1,p',q',e1,e2,?_⟩,d5⟩
  unfold zAu at u
  rw [e1,e2] at u
  exact Option.some.inj u
theorem zx.up {n : Nat} {x : Net} (hx : zx n x) : ∀ l ∈ x.Ls,zAu x l.A l.P = zAu x l.B l.Q := fun l hl => by
 obtain ⟨k,hk,rfl⟩ := List.getElem_of_mem hl
 obtain ⟨_,p,q,e1,e2,e3⟩ := (hx.2.2.1.2.2.2.2 k hk).1
 unfold zAu
 rw [e1,e2]
 simp [e3]
theorem zx.says {n : Nat} {x : Net} (hx : zx n x) : ∀ s ∈ x.Said,zD2 n x s ∧ s.wf := fun s hs => ⟨hx.2.2.2 s hs,hx.1.2.2.1.2 s hs⟩
theorem zx.self {n : Nat} {x : Net} (hx : zx n x) : ∀ i (hi : i < x.Bs.length) (hi' : i < x.Bs.length),zR n x.Bs[i] = some true ∧ x.Bs[i].wf ∧ x.Bs[i].sz ≤ 1048576 ∧ x.Bs[i].Id = x.Bs[i].Id ∧ x.Bs[i].Ps.length = x.Bs[i].Ps.length ∧ ∀ p (hp : p < x.Bs[i].Ps.length),x.Bs[i].Ps[p].Has = true → x.Ls.any (zf i p) = true := fun i hi _ =>
 ⟨(hx.br hi).1,(hx.br hi).2.1,by have := (hx.br hi).2.2; omega,rfl,rfl,(hx.2.2.1.1 i hi hi).2.2⟩
theorem zGN {n : Nat} {x : Net} (hx : zx n x) (ss : List Say) (s40 : ss.length ≤ 40) (said : ∀ s ∈ ss,zD2 n x s ∧ s.wf) : zx n ⟨x.Bs,x.Ls,ss⟩ :=
 zIl hx x.Bs ss rfl hx.self (fun l hl => hx.up l hl) s40 said
theorem zHY {n : Nat} {x : Net} (hx : zx n x) {i : Nat} (hi : i < x.Bs.length) (v : zA) (ok : zR n v = some true) (wv : v.wf) (sv : v.sz ≤ 1048576) (hid : v.Id = x.Bs[i].Id) (hl : v.Ps.length = x.Bs[i].Ps.length) (has : ∀ p (hp : p < v.Ps.length),v.Ps[p].Has = true → x.Ls.any (zf i p) = true) (hup : ∀ p : Int,(idx v.Ps p).map (·.Up) = (idx x.Bs[i].Ps p).map (·.Up))
  (ss : List Say) (s40 : ss.length ≤ 40) (said : ∀ s ∈ ss,zD2 n x s ∧ s.wf) : zx n ⟨x.Bs.set i v,x.Ls,ss⟩ := by
 refine zIl hx _ ss (by simp) (fun j hj hj' => ?_) (fun l hl => ?_) s40 said
 ·rw [List.getElem_set]
  by_cases h : i = j
  ·subst h
   simp only [if_true]
   exact ⟨ok,wv,sv,hid,hl,has⟩
  ·simp only [if_neg h]
   have := hx.self j hj hj
   exact ⟨this.1,this.2.1,this.2.2.1,trivial,trivial,this.2.2.2.2.2⟩
 ·have key : ∀ b p,zAu ⟨x.Bs.set i v,x.Ls,ss⟩ b p = zAu x b p := fun b p => by
   unfold zAu
   rw [zCC hi v b p (ss' := x.Said)]
   split
   ·rename_i hb
    subst hb
    rw [hup p]
    unfold zj
    rw [zC hi,Option.bind_some]
   ·rfl
  rw [key,key]
  exact hx.up l hl
theorem zDQ (n : Nat) (x : Net) (b : Int) (p : Int) : Zo n x b p = (idx x.Bs b).bind fun v => (qZ n v.Id v.Ps p) := by
 unfold Zo
 cases idx x.Bs b with
 | none => rfl
 | some v =>
  simp only [Option.bind_some,zB6]
  cases qZ n v.Id v.Ps p <;> rfl
theorem zEL (n : Nat) (x : Net) {k : Nat} (hk : k < x.Ls.length) (back : Bool) : Qz n x k back = bif back then (idx x.Bs x.Ls[k].B).bind fun v => qZ n v.Id v.Ps x.Ls[k].Q else (idx x.Bs x.Ls[k].A).bind fun v => qZ n v.Id v.Ps x.Ls[k].P := by
 unfold Qz
 rw [zC hk,Option.bind_some]
 cases back with
 | true =>
  simp only [cond_true]
  cases idx x.Bs x.Ls[k].B with
  | none => rfl
  | some v => simp only [Option.bind_some]; cases qZ n v.Id v.Ps x.Ls[k].Q <;> rfl
 | false =>
  simp only [cond_false]
  cases idx x.Bs x.Ls[k].A with
  | none => rfl
  | some v => simp only [Option.bind_some]; cases qZ n v.Id v.Ps x.Ls[k].P <;> rfl
theorem zFT {α : Type} {xs : List α} {b : Int} {v : α} (h : idx xs b = some v) : ∃ i : Nat,b = i ∧ ∃ hi : i < xs.length,xs[i] = v := by
 obtain ⟨i0,i1⟩ := Yb h
 obtain ⟨i,rfl⟩ := Int.eq_ofNat_of_zero_le i0
 have hi : i < xs.length := Int.ofNat_lt.1 i1
 rw [zC hi] at h
 exact ⟨i,rfl,hi,Option.some.inj h⟩
theorem zx.ends {n : Nat} {x : Net} (hx : zx n x) {k : Nat} (hk : k < x.Ls.length) : ∃ (a p b q : Nat) (ha : a < x.Bs.length) (hb : b < x.Bs.length),x.Ls[k].A = a ∧ x.Ls[k].P = p ∧ x.Ls[k].B = b ∧ x.Ls[k].Q = q ∧ a ≠ b ∧ p < x.Bs[a].Ps.length ∧ q < x.Bs[b].Ps.length ∧ p < 6 ∧ q < 6 := by
 obtain ⟨hne,p,q,e1,e2,_⟩ := (hx.2.2.1.2.2.2.2 k hk).1
 obtain ⟨v,h1,h2⟩ := YG e1
 obtain ⟨w,h3,h4⟩ := YG e2
 obtain ⟨a,ea,ha,rfl⟩ := zFT h1
 obtain ⟨p',ep,hp,_⟩ := zFT h2
 obtain ⟨b,eb,hb,rfl⟩ := zFT h3
 obtain ⟨q',eq,hq,_⟩ := zFT h4
 have := (qK n _ (by have := (hx.br ha).2.2; have hs : x.Bs[a].Name.size + x.Bs[a].Ps.length + x.Bs[a].F.length + x.Bs[a].V.sz = x.Bs[a].sz := rfl; omega) (hx.br ha).1).2.1
 have := (qK n _ (by have := (hx.br hb).2.2; have hs : x.Bs[b].Name.size + x.Bs[b].Ps.length + x.Bs[b].F.length + x.Bs[b].V.sz = x.Bs[b].sz := rfl; omega) (hx.br hb).1).2.1
 exact ⟨a,p',b,q',ha,hb,ea,ep,eb,eq,fun h => hne (by rw [ea,eb,h]),hp,hq,by omega,by omega⟩
theorem zx.say {n : Nat} {x : Net} (hn : 1048700 < n) (hx : zx n x) {i : Nat} (hi : i < x.Bs.length) (p : Nat) (hp : p < 6) : ∃ v,qZ n x.Bs[i].Id x.Bs[i].Ps p = some v ∧ zm n v = some true ∧ v.wf := by
 have hs : x.Bs[i].Name.size + x.Bs[i].Ps.length + x.Bs[i].F.length + x.Bs[i].V.sz = x.Bs[i].sz := rfl
 have h40 := (hx.br hi).2.2
 obtain ⟨p1,p2,p3,p4,_⟩ := qK n _ (by omega) (hx.br hi).1
 exact zIL n _ _ p p3 p4 (by omega) (by omega) (by omega) (by omega)
theorem zx.link {n : Nat} {x : Net} (hx : zx n x) (ss : List Say) (k : Int) : ∃ b,qu n ⟨x.Bs,x.Ls,ss⟩ k = some b ∧ zU n ⟨x.Bs,x.Ls,ss⟩ k = some b := by
 have h := hx.sz
 obtain ⟨b,e1,e2⟩ := zDc n x k hx.1 (by omega)
 exact ⟨b,e1,e2⟩
theorem zIJ {n : Nat} (hn : 1048700 < n) {x : Net} (hx : zx n x) (b : Int) : ∀ (m k : Nat) (ss : List Say),k ≤ x.Ls.length → x.Ls.length < m + k → ss.length ≤ 40 → (∀ s ∈ ss,zD2 n x s ∧ s.wf) → ∃ zs,qe n m x b k ss = some (.inl zs) ∧ ZH n m x b k ss = some (.inl zs) ∧ zs.length ≤ 40 ∧ ∀ s ∈ zs,zD2 n x s ∧ s.wf
 | 0,k,ss,h1,h2,h3,h4 => by omega
 | m + 1,k,ss,h1,h2,h3,h4 => by
  rw [qe,ZH]
  by_cases hk : k < x.Ls.length
  ·have h9 := hx.2.2.1.2.2.1
   have ih := fun ss h3 h4 => zIJ hn hx b m (k + 1) ss (by omega) (by omega) h3 h4
   obtain ⟨u,u1,u2⟩ := hx.link ss k
   obtain ⟨a,p,c,q,ha,hc,ea,ep,ec,eq,hac,hp,hq,hp6,hq6⟩ := hx.ends hk
   rw [zh hk,cond_true,cond_true,zC hk,Option.bind_some,u1,u2,Option.bind_some,Option.bind_some,zK (by omega : k ≤ 1099511627776)]
   cases u with
   | false => exact ih ss h3 h4
   | true =>
    simp only [Bool.not_true,cond_false]
    by_cases h40 : (ss.length : Int) ≥ 40
    ·rw [decide_eq_true h40,cond_true,cond_true]; exact ih ss h3 h4
    ·rw [decide_eq_false h40,cond_false,cond_false,Option.bind_some]
     have hg : ∀ s : Say,decide (ss.length + [s].length ≤ 268435456) = true := fun s => decide_eq_true (by simp; omega)
     have one : ∀ (bk : Bool) (v : Vec),zm n v = some true → v.wf → ∀ s ∈ ss ++ [(⟨k,bk,v⟩ : Say)],zD2 n x s ∧ s.wf := fun bk v hv wv s hs => by
      rcases List.mem_append.1 hs with hs | hs
      ·exact h4 s hs
      ·rw [List.mem_singleton] at hs
       subst hs
       exact ⟨⟨⟨by simp only; omega,by simp only; omega⟩,hv⟩,zq (z := (k : Int)) (by omega) (by omega),wv.1,wv.2.1,wv.2.2.1,wv.2.2.2.1,wv.2.2.2.2.1,trivial⟩
     by_cases hA : x.Ls[k].A = b
     ·obtain ⟨v,v1,v2,v3⟩ := hx.say hn ha p hp6
      have hB : (x.Ls[k].B == b) = false := by
       rw [beq_eq_false_iff_ne]
       intro h
       rw [← hA,ea,ec] at h
       omega
      rw [show (x.Ls[k].A == b) = true from by simpa using hA,cond_true,cond_true,zEL n ⟨x.Bs,x.Ls,ss⟩ hk false,cond_false,zDQ]
      simp only [← hA,ea,ep,zC ha,Option.bind_some,v1,hg,cond_true,QH,zC hk,hA,hB,cond_false,zK (by omega : k ≤ 1099511627776)]
      rw [ea] at hA
      have hB' : (x.Ls[k].B == (a : Int)) = false := by rw [beq_eq_false_iff_ne,ec]; omega
      simp only [hB',hA,hB,cond_false,Bool.not_true]
      exact ih _ (by simp; omega) (one false v v2 v3)
     ·rw [show (x.Ls[k].A == b) = false from by simpa using hA,cond_false,cond_false]
      simp only [QH,zC hk,Option.bind_some,zK (by omega : k ≤ 1099511627776)]
      by_cases hB : x.Ls[k].B = b
      ·obtain ⟨v,v1,v2,v3⟩ := hx.say hn hc q hq6
       rw [show (x.Ls[k].B == b) = true from by simpa using hB,cond_true,cond_true,zEL n ⟨x.Bs,x.Ls,ss⟩ hk true,cond_true,zDQ]
       simp only [← hB,ec,eq,zC hc,Option.bind_some,v1,hg,cond_true]
       rw [ec] at hB
       rw [hB]
       exact ih _ (by simp; omega) (one true v v2 v3)
      ·rw [show (x.Ls[k].B == b) = false from by simpa using hB,cond_false,cond_false]
       exact ih ss h3 h4
  ·obtain rfl : k = x.Ls.length := by omega
   rw [zY]
   exact ⟨ss,rfl,rfl,h3,h4⟩
theorem zLz {n : Nat} (hn : 1048700 < n) {x : Net} (hx : zx n x) (b : Int) : ∃ y,JM n x b = some y ∧ zB4 n x b = some y ∧ zx n y ∧ y.Bs = x.Bs ∧ y.Ls = x.Ls := by
 have h9 := hx.2.2.1.2.2.1
 obtain ⟨zs,e1,e2,e3,e4⟩ := zIJ hn hx b n 0 x.Said (by omega) (by omega) hx.2.2.1.2.2.2.1 hx.says
 refine ⟨⟨x.Bs,x.Ls,zs⟩,?_,?_,zGN hx zs e3 e4,rfl,rfl⟩
 ·unfold JM; rw [show qe n n x b 0 x.Said = _ from e1]; rfl
 ·unfold zB4; rw [show ZH n n x b 0 x.Said = _ from e2]; rfl
theorem zLa (ps : List Pt) (k : Nat) (hk : k < ps.length) (c : Int) (h : Bool) (v : Vec) (p : Int) : (idx (ps.set k ⟨ps[k].Up,c,h,v⟩) p).map (·.Up) = (idx ps p).map (·.Up) := by
 rw [JA hk]
 split
 ·rename_i e
  subst e
  rw [zC hk]; rfl
 ·rfl
theorem zEm {n : Nat} (hn : 1048700 < n) {x : Net} (hx : zx n x) {i p : Nat} (hi : i < x.Bs.length) (hp : p < x.Bs[i].Ps.length) (hup : x.Bs[i].Ps[p].Up = true) (hend : x.Ls.any (zf i p) = true) (v : Vec) (hv : zm n v = some true) : ∃ y,QW n x.Bs[i] p v = some y ∧ Q4 n x.Bs[i] p v = some y ∧ zx n ⟨x.Bs.set i y,x.Ls,x.Said⟩ ∧ y.Id = x.Bs[i].Id ∧ y.Ps = x.Bs[i].Ps.set p ⟨true,x.Bs[i].Ps[p].Co,true,v⟩ := by
 obtain ⟨b1,b2,b3⟩ := hx.br hi
 obtain ⟨y,e1,e2,e3,e4,e5,e6,e7,_⟩ := zHg n x.Bs[i] p v b2 (by omega) (by omega) b1 hp hup hv
 refine ⟨y,e1,e2,zHY hx hi y e3 e4 (by omega) e6 (by rw [e7]; simp) (fun j hj hh => ?_) (fun j => ?_) x.Said hx.2.2.1.2.2.2.1 hx.says,e6,e7⟩
 ·by_cases hjp : p = j
  ·subst hjp; exact hend
  ·have hj' : j < x.Bs[i].Ps.length := by rw [e7] at hj; simpa using hj
   have hg : y.Ps[j] = x.Bs[i].Ps[j] := by
    simp only [e7]
    exact List.getElem_set_ne hjp _
   rw [hg] at hh
   exact (hx.2.2.1.1 i hi hi).2.2 j hj' hh
 ·rw [e7,← zLa x.Bs[i].Ps p hp x.Bs[i].Ps[p].Co true v j,hup]
theorem zMe {n : Nat} (hn : 1048700 < n) {x : Net} (hx : zx n x) {i : Nat} (hi : i < x.Bs.length) : ∃ y,zA8 n x.Bs[i] = some y ∧ zDo n x.Bs[i] = some y ∧ zx n ⟨x.Bs.set i y,x.Ls,x.Said⟩ := by
 obtain ⟨b1,b2,b3⟩ := hx.br hi
 obtain ⟨y,e1,e2,e3,e4,e5,e6,e7,_⟩ := zJZ n x.Bs[i] b2 (by omega) (by omega) b1
 refine ⟨y,e1,e2,zHY hx hi y e3 e4 (by omega) e6 (by rw [e7]) (fun j hj hh => ?_) (fun j => by rw [e7]) x.Said hx.2.2.1.2.2.2.1 hx.says⟩
 have hj' : j < x.Bs[i].Ps.length := by rw [e7] at hj; exact hj
 have hg : y.Ps[j] = x.Bs[i].Ps[j] := by congr 1
 rw [hg] at hh
 exact (hx.2.2.1.1 i hi hi).2.2 j hj' hh
def JY (ss : List Say) (i : Nat) : List Say := ss.take i ++ ss.drop (i + 1)
theorem zK8 (ss : List Say) (i : Nat) (hi : i < ss.length) (h40 : ss.length ≤ 40) : (([] : List Say) ++ ((ss.drop ((0 : Int)).toNat).take (((i : Int)).toNat - ((0 : Int)).toNat))) ++ ((ss.drop ((((i + 1 : Nat) : Int) : Int)).toNat).take ((((ss.length : Int) : Int)).toNat - ((((i + 1 : Nat) : Int)) : Int).toNat)) = JY ss i := by
 unfold JY
 rw [List.nil_append,Int.toNat_natCast,Int.toNat_natCast,Int.toNat_natCast,show (0 : Int).toNat = 0 from rfl,Nat.sub_zero,List.drop_zero,show (ss.drop (i + 1)).take (ss.length - (i + 1)) = ss.drop (i + 1) from List.take_of_length_le (by rw [List.length_drop]; omega)]
theorem zMo {ss : List Say} {i : Nat} : ∀ s ∈ JY ss i,s ∈ ss := fun s hs => by
 rcases List.mem_append.1 hs with h | h
 ·exact List.mem_of_mem_take h
 ·exact List.mem_of_mem_drop h
theorem zMn {ss : List Say} {i : Nat} (hi : i < ss.length) : (JY ss i).length + 1 = ss.length := by
 unfold JY
 rw [List.length_append,List.length_take,List.length_drop]
 omega
theorem zJC (ss : List Say) (i : Nat) (hi : i < ss.length) (h40 : ss.length ≤ 40) :
  (decide ((0 : Int) ≤ 0) && (decide ((0 : Int) ≤ (i : Int)) && decide ((i : Int) ≤ (ss.length : Int)))) = true ∧
  (decide ((0 : Int) ≤ ((i + 1 : Nat) : Int)) && (decide (((i + 1 : Nat) : Int) ≤ (ss.length : Int)) && decide ((ss.length : Int) ≤ (ss.length : Int)))) = true ∧
  decide (([] : List Say).length + ((ss.drop ((0 : Int)).toNat).take (((i : Int)).toNat - ((0 : Int)).toNat)).length ≤ 268435456) = true ∧
  decide ((([] : List Say) ++ ((ss.drop ((0 : Int)).toNat).take (((i : Int)).toNat - ((0 : Int)).toNat))).length + ((ss.drop ((((i + 1 : Nat) : Int) : Int)).toNat).take ((((ss.length : Int) : Int)).toNat - ((((i + 1 : Nat) : Int)) : Int).toNat)).length ≤ 268435456) = true := by
 refine ⟨?_,?_,?_,?_⟩
 ·rw [Bool.and_eq_true,Bool.and_eq_true]
  exact ⟨rfl,decide_eq_true (by omega),decide_eq_true (by omega)⟩
 ·rw [Bool.and_eq_true,Bool.and_eq_true]
  exact ⟨decide_eq_true (by omega),decide_eq_true (by omega),decide_eq_true (by omega)⟩
 ·refine decide_eq_true ?_
  rw [List.length_take,List.length_drop,List.length_nil]
  omega
 ·refine decide_eq_true ?_
  rw [List.length_append,List.length_take,List.length_drop,List.length_take,List.length_drop,List.length_nil]
  omega
theorem zG5 (n : Nat) (x : Net) (z : Event) {i : Nat} (hi : i < x.Said.length) (h40 : x.Said.length ≤ 40) (he : z.At = i) : Y8 n x z = bif z.Ki == 2 then (qu n ⟨x.Bs,x.Ls,JY x.Said i⟩ x.Said[i].Link).bind fun u => bif u then Y7 n ⟨x.Bs,x.Ls,JY x.Said i⟩ x.Said[i].Link x.Said[i].Back x.Said[i].V else some ⟨x.Bs,x.Ls,JY x.Said i⟩ else some ⟨x.Bs,x.Ls,JY x.Said i⟩ := by
 obtain ⟨c1,c2,c3,c4⟩ := zJC x.Said i hi h40
 unfold Y8
 rw [he,zK (by omega : i ≤ 1099511627776),zC hi,Option.bind_some,c1,c2,c3,c4,zK8 x.Said i hi h40]
 simp only [cond_true]
 congr 1
 congr 1
 funext u
 cases u with
 | false => rfl
 | true => simp only [cond_true]; cases Y7 n ⟨x.Bs,x.Ls,JY x.Said i⟩ x.Said[i].Link x.Said[i].Back x.Said[i].V <;> rfl
theorem zFU (n : Nat) (x : Net) (b : Bool) {i : Nat} (hi : i < x.Said.length) (h40 : x.Said.length ≤ 40) : J0 n x i b = bif !b then some ⟨x.Bs,x.Ls,JY x.Said i⟩ else (zU n ⟨x.Bs,x.Ls,JY x.Said i⟩ x.Said[i].Link).bind fun u => bif !u then some ⟨x.Bs,x.Ls,JY x.Said i⟩ else (idx x.Ls x.Said[i].Link).bind fun l => bif x.Said[i].Back then ZC n ⟨x.Bs,x.Ls,JY x.Said i⟩ l.A l.P x.Said[i].V else ZC n ⟨x.Bs,x.Ls,JY x.Said i⟩ l.B l.Q x.Said[i].V := by
 obtain ⟨c1,c2,c3,c4⟩ := zJC x.Said i hi h40
 unfold J0
 rw [zK (by omega : i ≤ 1099511627776),zC hi,Option.bind_some,c1,c2,c3,c4,zK8 x.Said i hi h40]
 simp only [cond_true]
 congr 1
 congr 1
 funext u
 congr 1
 congr 1
 funext l
 congr 1
 ·cases ZC n ⟨x.Bs,x.Ls,JY x.Said i⟩ l.A l.P x.Said[i].V <;> rfl
 ·cases ZC n ⟨x.Bs,x.Ls,JY x.Said i⟩ l.B l.Q x.Said[i].V <;> rfl
theorem zMd {n : Nat} (hn : 1048700 < n) {x : Net} (hx : zx n x) {i : Nat} (hi : i < x.Said.length) (z : Event) (he : z.At = i) : ∃ y,Y8 n x z = some y ∧ J0 n x i (z.Ki == 2) = some y ∧ zx n y := by
 have h40 := hx.2.2.1.2.2.2.1
 rw [zG5 n x z hi h40 he,zFU n x _ hi h40]
 have hc : zx n ⟨x.Bs,x.Ls,JY x.Said i⟩ := zGN hx _ (by have := zMn hi; omega) fun s hs => hx.says s (zMo s hs)
 cases z.Ki == 2 with
 | false => exact ⟨_,rfl,rfl,hc⟩
 | true =>
  simp only [Bool.not_true,cond_false,cond_true]
  obtain ⟨⟨⟨l0,l1⟩,hv⟩,_⟩ := hx.says x.Said[i] (List.getElem_mem hi)
  obtain ⟨k,hk0⟩ := Int.eq_ofNat_of_zero_le l0
  have hk : k < x.Ls.length := by omega
  obtain ⟨u,u1,u2⟩ := hx.link (JY x.Said i) x.Said[i].Link
  rw [u1,u2,Option.bind_some,Option.bind_some]
  cases u with
  | false => exact ⟨_,rfl,rfl,hc⟩
  | true =>
   obtain ⟨a,p,c,q,ha,hcc,ea,ep,ec,eq,hac,hp,hq,hp6,hq6⟩ := hx.ends hk
   obtain ⟨l,va,vb,pp,qq,g1,g2,g3,g4,g5,g6,g7⟩ := zDd n _ _ u1
   rw [hk0] at g1 ⊢
   rw [show idx (⟨x.Bs,x.Ls,JY x.Said i⟩ : Net).Ls (k : Int) = _ from zC hk] at g1
   obtain rfl := Option.some.inj g1
   simp only [ea,ep,ec,eq,zC ha,zC hcc] at g2 g3 g5 g6
   obtain rfl := Option.some.inj g2
   obtain rfl := Option.some.inj g5
   rw [zC hp] at g3
   rw [zC hq] at g6
   obtain rfl := Option.some.inj g3
   obtain rfl := Option.some.inj g6
   unfold Y7 ZC
   simp only [Bool.not_true,cond_false,cond_true,zC hk,Option.bind_some,ea,ep,ec,eq,zC ha,zC hcc,Int.toNat_natCast]
   have hm : x.Ls[k] ∈ x.Ls := List.getElem_mem hk
   cases x.Said[i].Back with
   | true =>
    obtain ⟨y,e1,e2,e3,_⟩ := zEm hn hc ha hp g4 (List.any_eq_true.2 ⟨_,hm,qy.2 (.inl ⟨ea,ep⟩)⟩) _ hv
    simp only [cond_true,show QW n x.Bs[a] p x.Said[i].V = _ from e1,show Q4 n x.Bs[a] p x.Said[i].V = _ from e2,Option.bind_some]
    exact ⟨_,rfl,rfl,e3⟩
   | false =>
    obtain ⟨y,e1,e2,e3,_⟩ := zEm hn hc hcc hq g7 (List.any_eq_true.2 ⟨_,hm,qy.2 (.inr ⟨ec,eq⟩)⟩) _ hv
    simp only [cond_false,show QW n x.Bs[c] q x.Said[i].V = _ from e1,show Q4 n x.Bs[c] q x.Said[i].V = _ from e2,Option.bind_some]
    exact ⟨_,rfl,rfl,e3⟩
theorem zNA {bs : List zA} {ls : List Link} {ss : List Say} {a c : Nat} (ha : a < bs.length) (hc : c < bs.length) (hac : a ≠ c) (v w : zA) (b p : Int) : zAu ⟨(bs.set a v).set c w,ls,ss⟩ b p = if b = (c : Int) then (idx w.Ps p).map (·.Up) else if b = (a : Int) then (idx v.Ps p).map (·.Up) else zAu ⟨bs,ls,ss⟩ b p := by
 unfold zAu
 rw [zCC (bs := bs.set a v) (ss' := ss) (by simpa using hc),zCC (ss' := ss) ha]
 split
 ·rfl
 ·split <;> rfl
theorem zHB (ps : List Pt) (k : Nat) (hk : k < ps.length) (v : Pt) (p : Int) : (idx (ps.set k v) p).map (·.Up) = if p = (k : Int) then some v.Up else (idx ps p).map (·.Up) := by
 rw [JA hk]
 split <;> rfl
theorem zx.other {n : Nat} {x : Net} (hx : zx n x) {k j : Nat} (hk : k < x.Ls.length) (hj : j < x.Ls.length) (hkj : k ≠ j) : zf x.Ls[k].A x.Ls[k].P x.Ls[j] = false ∧ zf x.Ls[k].B x.Ls[k].Q x.Ls[j] = false := by
 obtain ⟨_,s1,s2⟩ := hx.2.2.1.2.2.2.2 k hk
 have key : ∀ b p : Int,zf b p x.Ls[k] = true → qO (qV b p) x.Ls = 1 → zf b p x.Ls[j] = false := fun b p h1 h2 => by
  rw [Bool.eq_false_iff]
  intro h3
  have c1 := zCc.1 h1
  have c2 := zCc.1 h3
  rcases Nat.lt_or_gt_of_ne hkj with h | h
  ·have := zHn (qV b p) x.Ls k j h hj
   omega
  ·have := zHn (qV b p) x.Ls j k h hk
   omega
 exact ⟨key _ _ (qy.2 (.inl ⟨rfl,rfl⟩)) s1,key _ _ (qy.2 (.inr ⟨rfl,rfl⟩)) s2⟩
theorem zMc {n : Nat} (hn : 1048700 < n) {x : Net} (hx : zx n x) {k : Nat} (hk : k < x.Ls.length) (up : Bool) : ∃ y,zAF n x k up = some y ∧ zCe n x k up = some y ∧ zx n y := by
 obtain ⟨u,u1,u2⟩ := hx.link x.Said k
 unfold zAF zCe
 rw [show qu n x k = _ from u1,show zU n x k = _ from u2,Option.bind_some,Option.bind_some]
 cases hu : u == up with
 | true => exact ⟨x,rfl,rfl,hx⟩
 | false =>
  obtain ⟨a,p,c,q,ha,hc,ea,ep,ec,eq,hac,hp,hq,hp6,hq6⟩ := hx.ends hk
  obtain ⟨ba1,ba2,ba3⟩ := hx.br ha
  obtain ⟨bc1,bc2,bc3⟩ := hx.br hc
  obtain ⟨v,v1,v2,v3,v4,v5,v6,v7,_⟩ := zEF n x.Bs[a] p up ba2 (by omega) (by omega) ba1 hp
  obtain ⟨w,w1,w2,w3,w4,w5,w6,w7,_⟩ := zEF n x.Bs[c] q up bc2 (by omega) (by omega) bc1 hq
  have hset : idx (x.Bs.set a v) (c : Int) = some x.Bs[c] := by
   rw [JA ha,if_neg (by omega),zC hc]
  simp only [cond_false,zC hk,Option.bind_some,ea,ep,ec,eq,zC ha,v1,v2,Int.toNat_natCast,hset,w1,w2]
  refine ⟨_,rfl,rfl,zIl hx _ _ (by simp) (fun i hi hi' => ?_) (fun l hl => ?_) hx.2.2.1.2.2.2.1 hx.says⟩
  ·have hself := hx.self i hi hi
   have used : ∀ {i' p' : Nat} {ps qs : List Pt} (hi' : i' < x.Bs.length) (hp' : p' < ps.length) (e : qs = ps.set p' ⟨up,ps[p'].Co,false,⟨0,0,0,0,0⟩⟩) (h : ∀ j (hj : j < ps.length),ps[j].Has = true → x.Ls.any (zf i' j) = true),∀ j (hj : j < qs.length),qs[j].Has = true → x.Ls.any (zf i' j) = true := fun {i' p' ps qs} hi' hp' e h j hj hh => by
    subst e
    by_cases hjp : p' = j
    ·subst hjp
     rw [List.getElem_set_self] at hh
     cases hh
    ·rw [List.getElem_set_ne hjp] at hh
     exact h j (by simpa using hj) hh
   by_cases hic : c = i
   ·subst hic
    simp only [List.getElem_set_self]
    exact ⟨w3,w4,by omega,w6,by rw [w7]; simp,used hc hq w7 (hx.self c hc hc).2.2.2.2.2⟩
   ·by_cases hia : a = i
    ·subst hia
     simp only [List.getElem_set_ne hic,List.getElem_set_self]
     exact ⟨v3,v4,by omega,v6,by rw [v7]; simp,used ha hp v7 (hx.self a ha ha).2.2.2.2.2⟩
    ·simp only [List.getElem_set_ne hic,List.getElem_set_ne hia]
     exact ⟨hself.1,hself.2.1,hself.2.2.1,trivial,trivial,hself.2.2.2.2.2⟩
  ·obtain ⟨j,hj,rfl⟩ := List.getElem_of_mem hl
   have hval : ∀ b p' : Int,zAu ⟨(x.Bs.set a v).set c w,x.Ls,x.Said⟩ b p' = if (b = (c : Int) ∧ p' = (q : Int)) ∨ (b = (a : Int) ∧ p' = (p : Int)) then some up else zAu x b p' := fun b p' => by
    rw [zNA ha hc hac,v7,w7,zHB _ _ hq,zHB _ _ hp]
    have hself : ∀ {i : Nat} (hi : i < x.Bs.length),(idx x.Bs[i].Ps p').map (·.Up) = zAu x (i : Int) p' := fun {i} hi => by
     unfold zAu zj
     rw [zC hi,Option.bind_some]
    by_cases h1 : b = (c : Int)
    ·subst h1
     have : ¬ ((c : Int) = (a : Int)) := by omega
     by_cases h2 : p' = (q : Int)
     ·simp [h2]
     ·simp only [if_true,if_neg h2,hself hc]
      rw [if_neg (by rintro (h | h) <;> omega)]
    ·by_cases h3 : b = (a : Int)
     ·subst h3
      by_cases h2 : p' = (p : Int)
      ·simp [h2,h1]
      ·simp only [if_neg h1,if_true,if_neg h2,hself ha]
       rw [if_neg (by rintro (h | h) <;> omega)]
     ·rw [if_neg h1,if_neg h3,if_neg (by rintro (h | h) <;> omega)]
   rw [hval,hval]
   by_cases hjk : k = j
   ·subst hjk
    rw [ea,ep,ec,eq,if_pos (.inr ⟨rfl,rfl⟩),if_pos (.inl ⟨rfl,rfl⟩)]
   ·obtain ⟨o1,o2⟩ := hx.other hk hj hjk
    have o1' := fun h => Bool.eq_false_iff.1 o1 (qy.2 h)
    have o2' := fun h => Bool.eq_false_iff.1 o2 (qy.2 h)
    rw [ea,ep] at o1'
    rw [ec,eq] at o2'
    rw [if_neg (fun h => h.elim (fun h => o2' (.inl h)) (fun h => o1' (.inl h))),if_neg (fun h => h.elim (fun h => o2' (.inr h)) (fun h => o1' (.inr h)))]
    exact hx.up _ hl
theorem zHZ {m : Nat} {z : Int} (h : (decide (0 ≤ z) && decide (z ≤ (m : Int) - 1)) = true) : ∃ i : Nat,z = i ∧ i < m := by
 rw [Bool.and_eq_true,decide_eq_true_iff,decide_eq_true_iff] at h
 obtain ⟨i,rfl⟩ := Int.eq_ofNat_of_zero_le h.1
 exact ⟨i,rfl,by omega⟩
theorem zJY {n : Nat} (hn : 1048700 < n) {x : Net} (hx : zx n x) (z : Event) : ∃ y b,zA7 n x z = some (y,b) ∧ zH5 n x z = some (y,b) ∧ zx n y ∧ (b = false → y = x) := by
 have hs : (x.Bs.length + zAV zA.sz x.Bs) + x.Ls.length + x.Said.length = x.sz := rfl
 have hsz := hx.sz
 obtain ⟨k1,k2⟩ := hx.ok hn
 unfold zA7 zH5
 rw [zHk n x (by omega) (by omega),zBp n x (by omega) (by omega),k1,k2]
 simp only [Option.bind_some,Bool.not_true,cond_false]
 have w1 : IntKind.wrap .i64 ((x.Bs.length : Int) - 1) = (x.Bs.length : Int) - 1 := wrap64 (by omega) (by omega)
 have w2 : IntKind.wrap .i64 ((x.Said.length : Int) - 1) = (x.Said.length : Int) - 1 := wrap64 (by omega) (by omega)
 have w3 : IntKind.wrap .i64 ((x.Ls.length : Int) - 1) = (x.Ls.length : Int) - 1 := wrap64 (by omega) (by omega)
 have w4 : IntKind.wrap .i64 ((0 : Int) - 1) = (0 : Int) - 1 := wrap64 (by omega) (by omega)
 have key : ∀ K : Int,z.Ki = K → ∃ y b,(bif (K == 1) then (ZZ n x x z true) else (ZZ n x x z (K == 6))) = some (y,b) ∧ (bif (K == 1) then (Qv n x x z true) else (Qv n x x z (K == 6))) = some (y,b) ∧ zx n y ∧ (b = false → y = x) := by
  intro K hK
  by_cases h1 : K = 1
  ·subst h1
   unfold ZZ Qv Zq
   simp only [show ((1 : Int) == 1) = true from rfl,show ((1 : Int) == 6) = false from rfl,cond_true,cond_false,qW,zL,w1,Option.bind_some,hK]
   cases h : (decide (0 ≤ z.At) && decide (z.At ≤ (x.Bs.length : Int) - 1)) with
   | false => exact ⟨x,false,rfl,rfl,hx,fun _ => rfl⟩
   | true =>
    obtain ⟨y,e1,e2,e3,_⟩ := zLz hn hx z.At
    simp only [Bool.not_true,cond_false,e1,e2,Option.bind_some]
    exact ⟨y,true,rfl,rfl,e3,fun h => by cases h⟩
  by_cases h6 : K = 6
  ·subst h6
   unfold ZZ Qv Zq
   simp only [show ((6 : Int) == 1) = false from rfl,show ((6 : Int) == 6) = true from rfl,cond_true,cond_false,qW,zL,w1,Option.bind_some,hK]
   cases h : (decide (0 ≤ z.At) && decide (z.At ≤ (x.Bs.length : Int) - 1)) with
   | false => exact ⟨x,false,rfl,rfl,hx,fun _ => rfl⟩
   | true =>
    obtain ⟨i,hi,hil⟩ := zHZ h
    obtain ⟨y,e1,e2,e3⟩ := zMe hn hx hil
    simp only [Bool.not_true,cond_false,hi,zC hil,e1,e2,Option.bind_some,Int.toNat_natCast]
    exact ⟨_,true,rfl,rfl,e3,fun h => by cases h⟩
  have b1 : (K == 1) = false := by rw [beq_eq_false_iff_ne]; exact h1
  have b6 : (K == 6) = false := by rw [beq_eq_false_iff_ne]; exact h6
  have said : ∀ c : Bool,(K == 2) = c → (K == 2 || K == 3) = true → ∃ y b,YM n x x z true = some (y,b) ∧ zAd n x x z true = some (y,b) ∧ zx n y ∧ (b = false → y = x) := fun c hc h23 => by
   unfold YM zAd Zq
   simp only [cond_true,cond_false,qW,zL,w2,Option.bind_some,hK,b1,b6]
   cases h : (decide (0 ≤ z.At) && decide (z.At ≤ (x.Said.length : Int) - 1)) with
   | false => exact ⟨x,false,rfl,rfl,hx,fun _ => rfl⟩
   | true =>
    obtain ⟨i,hi,hil⟩ := zHZ h
    obtain ⟨y,e1,e2,e3⟩ := zMd hn hx hil z hi
    rw [hK,hc] at e2
    have h3 : c = false → (K == 3) = true := fun h => by rw [hc,h] at h23; simpa using h23
    unfold zB7
    simp only [Bool.not_true,cond_false,e1,Option.bind_some,hc,hi,hK]
    cases c with
    | true => simp only [cond_true,e2,Option.bind_some]; exact ⟨y,true,rfl,rfl,e3,fun h => by cases h⟩
    | false => simp only [h3 rfl,cond_true,cond_false,e2,Option.bind_some]; exact ⟨y,true,rfl,rfl,e3,fun h => by cases h⟩
  by_cases h2 : K = 2
  ·obtain ⟨y,b,e1,e2,e3⟩ := said true (by rw [h2]; rfl) (by rw [h2]; rfl)
   unfold ZZ Qv
   simp only [b1,b6,cond_false,hK]
   rw [h2]
   exact ⟨y,b,e1,e2,e3⟩
  have b2 : (K == 2) = false := by rw [beq_eq_false_iff_ne]; exact h2
  by_cases h3 : K = 3
  ·obtain ⟨y,b,e1,e2,e3⟩ := said false b2 (by rw [h3]; rfl)
   unfold ZZ Qv
   simp only [b1,b6,b2,cond_false,hK]
   rw [h3]
   exact ⟨y,b,e1,e2,e3⟩
  have b3 : (K == 3) = false := by rw [beq_eq_false_iff_ne]; exact h3
  have link : (K == 4 || K == 5) = true → ∃ y b,YN n x x z true = some (y,b) ∧ Zq n x x z (x.Ls.length : Int) = some (y,b) ∧ zx n y ∧ (b = false → y = x) := fun h45 => by
   unfold YN Zq
   simp only [cond_true,cond_false,qW,zL,w3,Option.bind_some,hK,b1,b6,b2,b3]
   cases h : (decide (0 ≤ z.At) && decide (z.At ≤ (x.Ls.length : Int) - 1)) with
   | false => exact ⟨x,false,rfl,rfl,hx,fun _ => rfl⟩
   | true =>
    obtain ⟨i,hi,hil⟩ := zHZ h
    obtain ⟨y,e1,e2,e3⟩ := zMc hn hx hil (K == 5)
    unfold zB7
    simp only [Bool.not_true,cond_false,hK,hi,e1,e2,Option.bind_some]
    exact ⟨y,true,rfl,rfl,e3,fun h => by cases h⟩
  unfold ZZ Qv YM zAd
  simp only [b1,b6,b2,b3,cond_false,hK]
  by_cases h4 : K = 4
  ·rw [h4] at link ⊢
   exact link rfl
  have b4 : (K == 4) = false := by rw [beq_eq_false_iff_ne]; exact h4
  simp only [b4,cond_false]
  by_cases h5 : K = 5
  ·rw [h5] at link ⊢
   exact link rfl
  have b5 : (K == 5) = false := by rw [beq_eq_false_iff_ne]; exact h5
  unfold YN Zq
  simp only [b5,cond_false,qW,zL,w4,Option.bind_some,show (decide (0 ≤ z.At) && decide (z.At ≤ (0 : Int) - 1)) = false from by by_cases h : 0 ≤ z.At; { rw [decide_eq_false (show ¬ z.At ≤ (0 : Int) - 1 by omega),Bool.and_false] }; { rw [decide_eq_false h]; rfl },Bool.not_false,cond_true]
  exact ⟨x,false,rfl,rfl,hx,fun _ => rfl⟩
 exact key _ rfl
theorem zIO (n : Nat) (c : Src) (q : Nat) (hq : q ≤ 6) (hn : 100 < n) (h : c.ok) : ∃ (r : Nat) (c' : Src),zAq n c q = some ((List.range q).map (fun k => ((1 + (r + k * 3) % 7 : Nat) : Int)),c') ∧ c'.ok := by
 obtain ⟨v,c',e1,v0,v1,hc⟩ := qN n c 7 h
 have v1 := v1 (by decide)
 obtain ⟨r,rfl⟩ := Int.eq_ofNat_of_zero_le v0
 have loop : ∀ (m k : Nat),k ≤ q → q < m + k → Qq n m ((r : Int),c') q k ((List.range k).map (fun k => ((1 + (r + k * 3) % 7 : Nat) : Int))) = some (.inl ((List.range q).map (fun k => ((1 + (r + k * 3) % 7 : Nat) : Int)))) := fun m => by
  induction m with
  | zero => intro k _ _; omega
  | succ m ih =>
   intro k h1 h2
   rw [Qq]
   by_cases hk : k < q
   ·have e3 : IntKind.wrap .i64 ((k : Int) * 3) = ((k * 3 : Nat) : Int) := by rw [wrap64 (by omega) (by omega)]; omega
    have e4 : IntKind.wrap .i64 ((r : Int) + ((k * 3 : Nat) : Int)) = ((r + k * 3 : Nat) : Int) := by rw [wrap64 (by omega) (by omega)]; omega
    have e5 : Int.tmod ((r + k * 3 : Nat) : Int) 7 = (((r + k * 3) % 7 : Nat) : Int) := by rw [Int.tmod_eq_emod_of_nonneg (by omega)]; omega
    have e6 : IntKind.wrap .i64 (1 + (((r + k * 3) % 7 : Nat) : Int)) = ((1 + (r + k * 3) % 7 : Nat) : Int) := by rw [wrap64 (by omega) (by omega)]; omega
    have hd : decide ((7 : Int) ≠ 0) = true := by decide
    simp only [decide_eq_true (show (k : Int) < (q : Int) by omega),hd,cond_true,e3,e4,e5,e6,zK (by omega : k ≤ 1099511627776)]
    rw [decide_eq_true (by simp; omega),cond_true]
    have := ih (k + 1) (by omega) (by omega)
    rw [List.range_succ,List.map_append,List.map_singleton] at this
    exact this
   ·obtain rfl : k = q := by omega
    rw [decide_eq_false (by omega)]; rfl
 unfold zAq
 rw [e1,Option.bind_some,show Qq n n ((r : Int),c') q 0 [] = _ from loop n 0 (by omega) (by omega)]
 exact ⟨r,c',rfl,hc⟩
def LnkP (q p : Nat) (l : Link) : Prop := ∃ a b x y : Nat,l = ⟨a,x,b,y⟩ ∧ a < q ∧ b < q ∧ x < p ∧ y < p ∧ a ≠ b
def zEp (q p : Nat) (ls : List Link) : Prop := ls.length ≤ 9 ∧ (∀ l ∈ ls,LnkP q p l) ∧ ∀ b x : Int,qO (qV b x) ls ≤ 1
theorem zEp.add {q p : Nat} {ls : List Link} (h : zEp q p ls) (h9 : ls.length < 9) {a b x y : Nat} (ha : a < q) (hb : b < q) (hx : x < p) (hy : y < p) (hab : a ≠ b) (u1 : qO (qV a x) ls = 0) (u2 : qO (qV b y) ls = 0) : zEp q p (ls ++ [⟨a,x,b,y⟩]) := by
 refine ⟨by simp; omega,fun l hl => ?_,fun c z => ?_⟩
 ·rcases List.mem_append.1 hl with hl | hl
  ·exact h.2.1 l hl
  ·rw [List.mem_singleton] at hl
   exact ⟨a,b,x,y,hl,ha,hb,hx,hy,hab⟩
 ·have h1 := h.2.2 c z
  have h2 : qO (qV c z) [(⟨a,x,b,y⟩ : Link)] = qV c z ⟨a,x,b,y⟩ := by simp [qO]
  have b1 : ∀ t : Bool,(bif t then 1 else 0 : Nat) ≤ 1 := fun t => by cases t <;> decide
  rw [zCw,h2,show qV c z (⟨a,x,b,y⟩ : Link) = (bif (a : Int) == c && (x : Int) == z then 1 else 0) + (bif (b : Int) == c && (y : Int) == z then 1 else 0) from rfl]
  by_cases e1 : (a : Int) = c ∧ (x : Int) = z
  ·obtain ⟨rfl,rfl⟩ := e1
   have e2 : ((b : Int) == (a : Int)) = false := by rw [beq_eq_false_iff_ne]; omega
   rw [e2,Bool.false_and,cond_false,u1]
   have := b1 ((a : Int) == (a : Int) && (x : Int) == (x : Int))
   omega
  ·have e1' : ((a : Int) == c && (x : Int) == z) = false := by
    rw [Bool.eq_false_iff]
    intro hh
    rw [Bool.and_eq_true,beq_iff_eq,beq_iff_eq] at hh
    exact e1 hh
   rw [e1',cond_false]
   by_cases e3 : (b : Int) = c ∧ (y : Int) = z
   ·obtain ⟨rfl,rfl⟩ := e3
    rw [u2]
    have := b1 ((b : Int) == (b : Int) && (y : Int) == (y : Int))
    omega
   ·have e3' : ((b : Int) == c && (y : Int) == z) = false := by
     rw [Bool.eq_false_iff]
     intro hh
     rw [Bool.and_eq_true,beq_iff_eq,beq_iff_eq] at hh
     exact e3 hh
    rw [e3',cond_false]
    omega
theorem zCX (n p : Nat) (z : Int) (ls : List Link) (hp : p ≤ 1000) (h : ls.length ≤ 9) (hn : 1000 < n) : ∀ (m k : Nat),k < p → p < m + k → ∃ v : Nat,v < p ∧ Qg n m p z ls k = some (.inl v)
 | 0,k,h1,h2 => by omega
 | m + 1,k,h1,h2 => by
  rw [Qg,Ye n ⟨[],ls,[]⟩ z k (by simp only; omega) (by simp only; omega),Option.bind_some,zK (by omega : k ≤ 1099511627776)]
  by_cases hu : (qO (qV z k) ls : Int) > 0
  ·rw [decide_eq_true hu,cond_true]
   by_cases hk : k + 1 < p
   ·rw [decide_eq_true (by omega),cond_true]
    exact zCX n p z ls hp h hn m (k + 1) hk (by omega)
   ·rw [decide_eq_false (by omega),cond_false]
    exact ⟨k,h1,rfl⟩
  ·rw [decide_eq_false hu,cond_false]
   exact ⟨k,h1,rfl⟩
theorem zCW (n p : Nat) (z : Int) (ls : List Link) (hp : p ≤ 1000) (h : ls.length ≤ 9) (hn : 1000 < n) : ∀ (m k : Nat),k < p → p < m + k → ∃ v : Nat,v < p ∧ Qf n m p z ls k = some (.inl v)
 | 0,k,h1,h2 => by omega
 | m + 1,k,h1,h2 => by
  rw [Qf,Ye n ⟨[],ls,[]⟩ z k (by simp only; omega) (by simp only; omega),Option.bind_some,zK (by omega : k ≤ 1099511627776)]
  by_cases hu : (qO (qV z k) ls : Int) > 0
  ·rw [decide_eq_true hu,cond_true]
   by_cases hk : k + 1 < p
   ·rw [decide_eq_true (by omega),cond_true]
    exact zCW n p z ls hp h hn m (k + 1) hk (by omega)
   ·rw [decide_eq_false (by omega),cond_false]
    exact ⟨k,h1,rfl⟩
  ·rw [decide_eq_false hu,cond_false]
   exact ⟨k,h1,rfl⟩
theorem zF0 {n : Nat} (hn : 1000 < n) {q p : Nat} (hp0 : 1 ≤ p) (hp : p ≤ 1000) (f : Int × List Int × Int × Int × List Link → Option ((List Int × Int × Int × List Link) ⊕ (List Link × Src))) (k : Nat) (hk : k ≤ 1000) (ls : List Link) (h : zEp q p ls) (b a : Nat) (hb : b < q) (ha : a < q) (c : Src) (hc : c.ok) :
  ∃ (c' : Src) (zs : List Link),c'.ok ∧ zEp q p zs ∧ ZU n f p k ls b a c.b c.i c.h = f (((k + 1 : Nat) : Int),c'.b,c'.i,c'.h,zs) := by
 obtain ⟨v1,c1,e1,a1,b1,g1⟩ := qN n c p hc
 obtain ⟨v2,c2,e2,a2,b2,g2⟩ := qN n c1 p g1
 have b1 := b1 (by omega)
 have b2 := b2 (by omega)
 obtain ⟨v1,rfl⟩ := Int.eq_ofNat_of_zero_le a1
 obtain ⟨v2,rfl⟩ := Int.eq_ofNat_of_zero_le a2
 obtain ⟨x,hx,e3⟩ := zCX n p a ls hp h.1 hn n v1 (by omega) (by omega)
 obtain ⟨y,hy,e4⟩ := zCW n p b ls hp h.1 hn n v2 (by omega) (by omega)
 unfold ZU Yw
 rw [show zp n ⟨c.b,c.i,c.h⟩ p = _ from e1,Option.bind_some,e2,Option.bind_some]
 simp only [e3,Option.bind_some,e4]
 unfold Yx Zt
 simp only [Ye n ⟨[],ls,[]⟩ _ _ (show ls.length ≤ 1048600 by have := h.1; omega) (show ls.length < n by have := h.1; omega),Option.bind_some,zK (by omega : k ≤ 1099511627776)]
 by_cases hab : (a : Int) = (b : Int)
 ·rw [show ((a : Int) != (b : Int)) = false from by simp [hab],cond_false]
  exact ⟨c2,ls,g2,h,rfl⟩
 rw [show ((a : Int) != (b : Int)) = true from by simpa using hab,cond_true]
 by_cases u1 : qO (qV a x) ls = 0
 ·rw [u1,show (((0 : Nat) : Int) == 0) = true from rfl,cond_true]
  by_cases u2 : qO (qV b y) ls = 0
  ·rw [u2,show (((0 : Nat) : Int) == 0) = true from rfl,cond_true]
   by_cases h9 : (ls.length : Int) < 9
   ·rw [decide_eq_true h9,cond_true,decide_eq_true (by simp; omega),cond_true]
    exact ⟨c2,_,g2,h.add (by omega) ha hb hx hy (by omega) u1 u2,rfl⟩
   ·rw [decide_eq_false h9,cond_false]
    exact ⟨c2,ls,g2,h,rfl⟩
  ·rw [show (((qO (qV b y) ls : Nat) : Int) == 0) = false from by rw [beq_eq_false_iff_ne]; omega]
   exact ⟨c2,ls,g2,h,rfl⟩
 ·rw [show (((qO (qV a x) ls : Nat) : Int) == 0) = false from by rw [beq_eq_false_iff_ne]; omega]
  exact ⟨c2,ls,g2,h,rfl⟩
theorem zCV {n : Nat} (hn : 1000 < n) {q p : Nat} (hp0 : 1 ≤ p) (hp : p ≤ 1000) (hq0 : 1 ≤ q) (hq : q ≤ 6) : ∀ (m k : Nat) (c : Src) (ls : List Link),k ≤ 10 → 10 < m + k → c.ok → zEp q p ls → ∃ (c' : Src) (zs : List Link),c'.ok ∧ zEp q p zs ∧ zd n m q p k c.b c.i c.h ls = some (.inl (c'.b,c'.i,c'.h,zs))
 | 0,k,c,ls,h1,h2,hc,h => by omega
 | m + 1,k,c,ls,h1,h2,hc,h => by
  obtain ⟨v1,c1,e1,a1,b1,g1⟩ := qN n c 4 hc
  have b1 := b1 (by decide)
  obtain ⟨v1,rfl⟩ := Int.eq_ofNat_of_zero_le a1
  rw [zd,show zp n ⟨c.b,c.i,c.h⟩ 4 = _ from e1,Option.bind_some,show IntKind.wrap .i64 ((q : Int) + (v1 : Int)) = ((q + v1 : Nat) : Int) from by rw [wrap64 (by omega) (by omega)]; omega]
  by_cases hk : k < q + v1
  ·obtain ⟨v2,c2,e2,a2,b2,g2⟩ := qN n c1 q g1
   obtain ⟨v3,c3,e3,a3,b3,g3⟩ := qN n c2 2 g2
   have b2 := b2 (by omega)
   have b3 := b3 (by decide)
   obtain ⟨v2,rfl⟩ := Int.eq_ofNat_of_zero_le a2
   obtain ⟨v3,rfl⟩ := Int.eq_ofNat_of_zero_le a3
   have t1 : Int.tmod (IntKind.wrap .i64 (((v2 + 1 : Nat) : Int) + (v3 : Int))) (q : Int) = (((v2 + 1 + v3) % q : Nat) : Int) := by
    rw [wrap64 (by omega) (by omega),Int.tmod_eq_emod_of_nonneg (by omega),← Int.natCast_add,← Int.natCast_emod]
   have t2 : (v2 + 1 + v3) % q < q := Nat.mod_lt _ (by omega)
   rw [decide_eq_true (show (k : Int) < ((q + v1 : Nat) : Int) by omega),cond_true,e2,Option.bind_some,e3,Option.bind_some,decide_eq_true (show (q : Int) ≠ 0 by omega),cond_true,show IntKind.wrap .i64 ((q : Int) - 1) = (q : Int) - 1 from wrap64 (by omega) (by omega),zK (by omega : v2 ≤ 1099511627776),zK (by omega : k ≤ 1099511627776),t1]
   have go : ∀ (b a : Nat) (c' : Src),b < q → a < q → c'.ok → ∃ (c'' : Src) (zs : List Link),c''.ok ∧ zEp q p zs ∧ ZU n (fun v => zd n m q p v.1 v.2.1 v.2.2.1 v.2.2.2.1 v.2.2.2.2) p k ls b a c'.b c'.i c'.h = some (.inl (c''.b,c''.i,c''.h,zs)) := fun b a c' hb ha hc' => by
    obtain ⟨c4,zs,g4,l4,e4⟩ := zF0 hn hp0 hp (fun v => zd n m q p v.1 v.2.1 v.2.2.1 v.2.2.2.1 v.2.2.2.2) k (by omega) ls h b a hb ha c' hc'
    rw [e4]
    exact zCV hn hp0 hp hq0 hq m (k + 1) c4 zs (by omega) (by omega) g4 l4
   by_cases hkq : (k : Int) < (q : Int) - 1
   ·obtain ⟨v4,c4,e4,g4⟩ := zEj n c3 5 g3
    rw [decide_eq_true hkq,cond_true,e4,Option.bind_some]
    cases v4 with
    | false => exact go (k + 1) k c4 (by omega) (by omega) g4
    | true => exact go _ v2 c4 t2 (by omega) g4
   ·rw [decide_eq_false hkq,cond_false]
    exact go _ v2 c3 t2 (by omega) g3
  ·rw [decide_eq_false (by omega),cond_false]
   exact ⟨c1,ls,g1,h,rfl⟩
theorem zG3 {n : Nat} (hn : 1000 < n) {q p : Nat} (hp0 : 1 ≤ p) (hp : p ≤ 1000) (hq0 : 1 ≤ q) (hq : q ≤ 6) (c : Src) (hc : c.ok) : ∃ (ls : List Link) (c' : Src),Jo n c q p = some (ls,c') ∧ zEp q p ls ∧ c'.ok := by
 obtain ⟨c',zs,g,l,e⟩ := zCV hn hp0 hp hq0 hq n 0 c [] (by omega) (by omega) hc ⟨Nat.zero_le _,(fun l hl => by cases hl),fun _ _ => Nat.zero_le _⟩
 unfold Jo
 rw [show zd n n q p 0 c.b c.i c.h [] = _ from e]
 exact ⟨zs,c',rfl,l,g⟩
theorem zNO (n : Nat) (p : Pt) (c : Int) (hc : 1 ≤ c ∧ c ≤ 1000) (h : qE n p = some true) : qE n ⟨p.Up,c,p.Has,p.Hd⟩ = some true := by
 obtain ⟨_,h1,h2⟩ := YW n p h
 cases hh : p.Has with
 | false => rw [h2 hh]; exact zFC n c p.Up hc
 | true => rw [(h1 hh).1]; exact zFD n c p.Hd hc (h1 hh).2
theorem zMk {n : Nat} (hn : 1048700 < n) {x : Net} (hx : zx n x) {i j : Nat} (hi : i < x.Bs.length) (hj : j < x.Bs[i].Ps.length) (c : Int) (hc : 1 ≤ c ∧ c ≤ 1000) : zx n ⟨x.Bs.set i ⟨x.Bs[i].Id,x.Bs[i].Name,x.Bs[i].Ps.set j ⟨x.Bs[i].Ps[j].Up,c,x.Bs[i].Ps[j].Has,x.Bs[i].Ps[j].Hd⟩,x.Bs[i].F,x.Bs[i].V,x.Bs[i].Tk,x.Bs[i].Pa,x.Bs[i].Wo,x.Bs[i].Dr,x.Bs[i].Ve⟩,x.Ls,x.Said⟩ := by
 obtain ⟨b1,b2,b3⟩ := hx.br hi
 have hs : x.Bs[i].Name.size + x.Bs[i].Ps.length + x.Bs[i].F.length + x.Bs[i].V.sz = x.Bs[i].sz := rfl
 obtain ⟨p1,p2,p3,p4,p5,p6,p7,p8,p9,p10,p11,p12,p13⟩ := qK n _ (by omega) b1
 obtain ⟨w1,w2,w3,w4,w5⟩ := b2
 have wj := w3.2 _ (List.getElem_mem hj)
 have hps : ∀ q (hq : q < (x.Bs[i].Ps.set j ⟨x.Bs[i].Ps[j].Up,c,x.Bs[i].Ps[j].Has,x.Bs[i].Ps[j].Hd⟩).length),qE n (x.Bs[i].Ps.set j ⟨x.Bs[i].Ps[j].Up,c,x.Bs[i].Ps[j].Has,x.Bs[i].Ps[j].Hd⟩)[q] = some true := zIp (P := fun q => qE n q = some true) p13 (zNO n _ c hc (p13 j hj))
 refine zHY hx hi (⟨x.Bs[i].Id,x.Bs[i].Name,x.Bs[i].Ps.set j ⟨x.Bs[i].Ps[j].Up,c,x.Bs[i].Ps[j].Has,x.Bs[i].Ps[j].Hd⟩,x.Bs[i].F,x.Bs[i].V,x.Bs[i].Tk,x.Bs[i].Pa,x.Bs[i].Wo,x.Bs[i].Dr,x.Bs[i].Ve⟩ : zA) (zBI n (⟨x.Bs[i].Id,x.Bs[i].Name,x.Bs[i].Ps.set j ⟨x.Bs[i].Ps[j].Up,c,x.Bs[i].Ps[j].Has,x.Bs[i].Ps[j].Hd⟩,x.Bs[i].F,x.Bs[i].V,x.Bs[i].Tk,x.Bs[i].Pa,x.Bs[i].Wo,x.Bs[i].Dr,x.Bs[i].Ve⟩ : zA) (by simp only [List.length_set]; omega) (by simp only [List.length_set]; exact p1) (by simp only [List.length_set]; exact p2) p3 p4 p5 p6 (by simp only [List.length_set]; exact p7) p8 p9 p10 p11 p12 hps) ⟨w1,w2,zFb w3 ⟨zq (z := c) (by omega) (by omega),wj.2⟩,w4,w5⟩ ?_ rfl (by simp) (fun q hq hh => ?_) (fun q => ?_) x.Said hx.2.2.1.2.2.2.1 hx.says
 ·show x.Bs[i].Name.size + (x.Bs[i].Ps.set j _).length + x.Bs[i].F.length + x.Bs[i].V.sz ≤ 1048576
  rw [List.length_set]; omega
 ·have hq' : q < x.Bs[i].Ps.length := by simpa using hq
  refine (hx.2.2.1.1 i hi hi).2.2 q hq' ?_
  by_cases hjq : j = q
  ·subst hjq
   simpa using hh
  ·simp only [List.getElem_set_ne hjq] at hh
   exact hh
 ·simp only
  rw [JA hj]
  split
  ·rename_i e
   subst e
   rw [zC hj]; rfl
  ·rfl
theorem zDO {n : Nat} (hn : 1048700 < n) {ls : List Link} {ss : List Say} {i : Nat} : ∀ (m k : Nat) (bs : List zA) (c : Src),zx n ⟨bs,ls,ss⟩ → c.ok → ∀ (hi : i < bs.length),k ≤ bs[i].Ps.length → bs[i].Ps.length < m + k → ∃ (zs : List zA) (c' : Src),zx n ⟨zs,ls,ss⟩ ∧ zs.length = bs.length ∧ c'.ok ∧ QN n m i k bs c.b c.i c.h = some (.inl (zs,c'.b,c'.i,c'.h))
 | 0,k,bs,c,hx,hc,hi,h1,h2 => by omega
 | m + 1,k,bs,c,hx,hc,hi,h1,h2 => by
  have h40 := (hx.br hi).2.2
  have hs : bs[i].Name.size + bs[i].Ps.length + bs[i].F.length + bs[i].V.sz = bs[i].sz := rfl
  simp only at h40
  rw [QN,zC hi,Option.bind_some]
  by_cases hk : k < bs[i].Ps.length
  ·obtain ⟨v,c',e1,hv,g⟩ := zBC n c [1,1,2,5,20] hc (by decide)
   have hv' : 1 ≤ v ∧ v ≤ 1000 := by
    simp only [List.mem_cons,List.not_mem_nil,or_false] at hv
    omega
   have hx' := zMk hn hx hi hk v hv'
   simp only at hx'
   rw [zh hk,cond_true,show Z3 n ⟨c.b,c.i,c.h⟩ [1,1,2,5,20] = _ from e1,Option.bind_some,zC hk,Option.bind_some,zK (by omega : k ≤ 1099511627776),Int.toNat_natCast,Int.toNat_natCast]
   obtain ⟨zs,c'',z1,z2,z3,z4⟩ := zDO hn m (k + 1) _ c' hx' g (by simpa using hi) (by simp; omega) (by simp; omega)
   exact ⟨zs,c'',z1,by rw [z2]; simp,z3,z4⟩
  ·rw [decide_eq_false (by omega),cond_false]
   exact ⟨bs,c,hx,rfl,hc,rfl⟩
theorem zDN {n : Nat} (hn : 1048700 < n) {ls : List Link} {ss : List Say} : ∀ (m k : Nat) (bs : List zA) (c : Src),zx n ⟨bs,ls,ss⟩ → c.ok → k ≤ bs.length → bs.length < m + k → ∃ (zs : List zA) (c' : Src),zx n ⟨zs,ls,ss⟩ ∧ zs.length = bs.length ∧ c'.ok ∧ ZQ n m k bs c.b c.i c.h = some (.inl (zs,c'.b,c'.i,c'.h))
 | 0,k,bs,c,hx,hc,h1,h2 => by omega
 | m + 1,k,bs,c,hx,hc,h1,h2 => by
  have h6 := hx.2.2.1.2.1.2
  simp only at h6
  rw [ZQ]
  by_cases hk : k < bs.length
  ·have h40 := (hx.br hk).2.2
   have hs : bs[k].Name.size + bs[k].Ps.length + bs[k].F.length + bs[k].V.sz = bs[k].sz := rfl
   simp only at h40
   obtain ⟨ys,c',y1,y2,y3,y4⟩ := zDO hn n 0 bs c hx hc hk (by omega) (by omega)
   rw [zh hk,cond_true,show QN n n k 0 bs c.b c.i c.h = _ from y4]
   simp only [Option.bind_some,JK,zK (by omega : k ≤ 1099511627776)]
   obtain ⟨zs,c'',z1,z2,z3,z4⟩ := zDN hn m (k + 1) ys c' y1 y3 (by omega) (by omega)
   exact ⟨zs,c'',z1,by omega,z3,z4⟩
  ·obtain rfl : k = bs.length := by omega
   rw [zY]
   exact ⟨bs,c,hx,rfl,hc,rfl⟩
theorem zG4 (n : Nat) (c : Src) (x : Net) (hc : c.ok) : ∃ (z : Event) (c' : Src),Ym n c x = some (z,c') ∧ c'.ok := by
 have j1 : ∀ (y : Bool) (c : Src),c.ok → ∃ (z : Event) (c' : Src),Qh n x y c.b c.i c.h = some (z,c') ∧ c'.ok := fun y c hc => by
  unfold Qh
  cases y with
  | true =>
   obtain ⟨v,c1,e1,_,g1⟩ := zBC n c [2,2,2,2,3] hc (by decide)
   obtain ⟨w,c2,e2,_,_,g2⟩ := qN n c1 (x.Said.length : Int) g1
   rw [cond_true,show Z3 n ⟨c.b,c.i,c.h⟩ [2,2,2,2,3] = _ from e1,Option.bind_some,e2]
   exact ⟨_,c2,rfl,g2⟩
  | false =>
   obtain ⟨v,c1,e1,_,g1⟩ := zBC n c [1,1,1,1,4,5,6] hc (by decide)
   rw [cond_false,show Z3 n ⟨c.b,c.i,c.h⟩ [1,1,1,1,4,5,6] = _ from e1,Option.bind_some]
   have j2 : ∀ t : Bool,∃ (z : Event) (c' : Src),Qi n (v,c1) x t = some (z,c') ∧ c'.ok := fun t => by
    unfold Qi
    obtain ⟨w,c2,e2,_,_,g2⟩ := qN n c1 (x.Ls.length : Int) g1
    obtain ⟨w',c3,e3,_,_,g3⟩ := qN n c1 (x.Bs.length : Int) g1
    simp only [e2,e3,Option.bind_some]
    cases t with
    | true => cases ((x.Ls.length : Int) == 0) <;> exact ⟨_,_,rfl,by assumption⟩
    | false => cases ((x.Bs.length : Int) == 0) <;> exact ⟨_,_,rfl,by assumption⟩
   cases ((v,c1).1 == 4) with
   | true => exact j2 true
   | false => exact j2 _
 unfold Ym
 cases decide ((x.Said.length : Int) > 0) with
 | true =>
  obtain ⟨v,c1,e1,g1⟩ := zEj n c 2 hc
  rw [cond_true,e1,Option.bind_some]
  exact j1 v c1 g1
 | false => exact j1 false c hc
theorem zDM {n : Nat} (hn : 1048700 < n) : ∀ (m k : Nat) (x : Net) (c : Src),zx n x → c.ok → k < m → k ≤ 1000 → ∃ (y : Net) (c' : Src),zx n y ∧ c'.ok ∧ QM n m k c.b c.i c.h x.Bs x.Ls x.Said = some (.inl (c'.b,c'.i,c'.h,y.Bs,y.Ls,y.Said))
 | 0,k,x,c,hx,hc,h,h' => by omega
 | m + 1,k,x,c,hx,hc,h,h' => by
  rw [QM]
  by_cases hk : (k : Int) > 0
  ·obtain ⟨z,c1,e1,g1⟩ := zG4 n c x hc
   obtain ⟨y,b,e2,_,e3,_⟩ := zJY hn hx z
   rw [decide_eq_true hk,cond_true,show Ym n ⟨c.b,c.i,c.h⟩ ⟨x.Bs,x.Ls,x.Said⟩ = _ from e1,Option.bind_some,show zA7 n ⟨x.Bs,x.Ls,x.Said⟩ z = _ from e2,Option.bind_some,show IntKind.wrap .i64 ((k : Int) - 1) = ((k - 1 : Nat) : Int) from by rw [wrap64 (by omega) (by omega)]; omega]
   exact zDM hn m (k - 1) y c1 e3 g1 (by omega) (by omega)
  ·rw [decide_eq_false hk,cond_false]
   exact ⟨x,c,hx,hc,rfl⟩
theorem zGd (n : Nat) (c : Src) (hc : c.ok) (hn : 100 < n) : ∃ (zs : List Event) (c' : Src),JL n c 10 = some (zs,c') ∧ zs.length ≤ 10 ∧ c'.ok := by
 have loop : ∀ (m k : Nat) (zs : List Event) (c : Src),c.ok → k < m → zs.length + k ≤ 10 → ∃ (ys : List Event) (c' : Src),Zh n m k zs c.b c.i c.h = some (.inl (ys,c'.b,c'.i,c'.h)) ∧ ys.length ≤ 10 ∧ c'.ok := fun m => by
  induction m with
  | zero => intro k zs c _ h _; omega
  | succ m ih =>
   intro k zs c hc h h'
   rw [Zh]
   by_cases hk : (k : Int) > 0
   ·obtain ⟨v,c1,e1,_,g1⟩ := zBC n c [1,1,1,2,2,2,2,3,4,5,6] hc (by decide)
    obtain ⟨w,c2,e2,_,_,g2⟩ := qN n c1 4 g1
    rw [decide_eq_true hk,cond_true,show Z3 n ⟨c.b,c.i,c.h⟩ [1,1,1,2,2,2,2,3,4,5,6] = _ from e1,Option.bind_some,e2,Option.bind_some,decide_eq_true (by simp; omega),cond_true,show IntKind.wrap .i64 ((k : Int) - 1) = ((k - 1 : Nat) : Int) from by rw [wrap64 (by omega) (by omega)]; omega]
    exact ih (k - 1) _ c2 g2 (by omega) (by simp; omega)
   ·rw [decide_eq_false hk,cond_false]
    exact ⟨zs,c,rfl,by omega,hc⟩
 obtain ⟨v,c1,e1,v0,v1,g1⟩ := qN n c 10 hc
 have v1 := v1 (by decide)
 obtain ⟨v,rfl⟩ := Int.eq_ofNat_of_zero_le v0
 obtain ⟨ys,c2,e2,e3,e4⟩ := loop n v [] c1 g1 (by omega) (by simp; omega)
 unfold JL
 rw [e1,Option.bind_some,show Zh n n v [] c1.b c1.i c1.h = _ from e2]
 exact ⟨ys,c2,rfl,e3,e4⟩
theorem zNV (p : Nat) (h1 : 1 ≤ p) (h6 : p ≤ 6) : ∃ vt : zJ,zBk 1048800 p = some vt ∧ qj 1048800 vt p = some true ∧ vt.sz ≤ 10 ∧ vt.wf := by
 have wf : ∀ (m : Int) (k : Nat),0 ≤ m → m ≤ 63 → k ≤ 6 → (⟨[⟨1,m,m⟩],List.replicate k 1⟩ : zJ).wf := fun m k h0 h1 hk => by
  refine ⟨⟨by simp only [List.length_singleton]; decide,fun r hr => ?_⟩,⟨?_,fun r hr => ?_⟩,trivial⟩
  ·rw [List.mem_singleton] at hr; subst hr
   exact ⟨zq (by simp only; omega) (by simp only; omega),zq (by simp only; omega) (by simp only; omega),zq (by simp only; omega) (by simp only; omega),trivial⟩
  ·have : maxLen = 9223372036854775807 := by decide
   simp only [List.length_replicate]; omega
  ·obtain ⟨_,rfl⟩ := List.mem_replicate.1 hr
   exact zq (by omega) (by omega)
 have hc : p = 1 ∨ p = 2 ∨ p = 3 ∨ p = 4 ∨ p = 5 ∨ p = 6 := by omega
 rcases hc with rfl | rfl | rfl | rfl | rfl | rfl
 ·exact ⟨⟨[⟨1,1,1⟩],List.replicate 1 1⟩,by kernel_rfl,by kernel_rfl,by decide,wf _ _ (by decide) (by decide) (by decide)⟩
 ·exact ⟨⟨[⟨1,3,3⟩],List.replicate 2 1⟩,by kernel_rfl,by kernel_rfl,by decide,wf _ _ (by decide) (by decide) (by decide)⟩
 ·exact ⟨⟨[⟨1,7,7⟩],List.replicate 3 1⟩,by kernel_rfl,by kernel_rfl,by decide,wf _ _ (by decide) (by decide) (by decide)⟩
 ·exact ⟨⟨[⟨1,15,15⟩],List.replicate 4 1⟩,by kernel_rfl,by kernel_rfl,by decide,wf _ _ (by decide) (by decide) (by decide)⟩
 ·exact ⟨⟨[⟨1,31,31⟩],List.replicate 5 1⟩,by kernel_rfl,by kernel_rfl,by decide,wf _ _ (by decide) (by decide) (by decide)⟩
 ·exact ⟨⟨[⟨1,63,63⟩],List.replicate 6 1⟩,by kernel_rfl,by kernel_rfl,by decide,wf _ _ (by decide) (by decide) (by decide)⟩
theorem zLk (p : Nat) (h1 : 1 ≤ p) (h6 : p ≤ 6) : Q1 1048800 1048800 p 0 [] = some (.inl (psK p 0)) ∧ True := by
 have hc : p = 1 ∨ p = 2 ∨ p = 3 ∨ p = 4 ∨ p = 5 ∨ p = 6 := by omega
 rcases hc with rfl | rfl | rfl | rfl | rfl | rfl <;> exact ⟨by kernel_rfl,trivial⟩
theorem zHG (z : Int) (q : Int) : (¬ ((1 ≤ z ∧ z ≤ 99) ∧ 1 ≤ q ∧ q ≤ 6) ∧ Zp 1048800 z q = some noB) ∨ ∃ (p : Nat) (vt : zJ),q = p ∧ (1 ≤ z ∧ z ≤ 99) ∧ 1 ≤ p ∧ p ≤ 6 ∧ vt.sz ≤ 10 ∧ vt.wf ∧ qj 1048800 vt p = some true ∧ Zp 1048800 z q = some (nbB z vt (psK p 0) 0) := by
 unfold Zp
 simp only [zL,Option.bind_some]
 by_cases hz : 1 ≤ z ∧ z ≤ 99
 ·rw [decide_eq_true hz.1,decide_eq_true hz.2]
  by_cases hq : 1 ≤ q ∧ q ≤ 6
  ·obtain ⟨p,rfl⟩ := Int.eq_ofNat_of_zero_le (show 0 ≤ q by omega)
   obtain ⟨vt,e1,e3,e4,e5⟩ := zNV p (by omega) (by omega)
   have f1 := (zLk p (by omega) (by omega)).1
   refine .inr ⟨p,vt,rfl,hz,by omega,by omega,e4,e5,e3,?_⟩
   ·rw [decide_eq_true hq.1,decide_eq_true hq.2]
    simp only [Bool.and_self,Bool.not_true,cond_false,e1,Option.bind_some,f1]
    rfl
  ·refine .inl ⟨fun h => hq h.2,?_⟩
   have : (decide (1 ≤ q) && decide (q ≤ 6)) = false := by
    simp only [Bool.and_eq_false_iff,decide_eq_false_iff_not]; omega
   rw [this]
   rfl
 ·refine .inl ⟨fun h => hz h.1,?_⟩
  have : (decide (1 ≤ z) && decide (z ≤ 99)) = false := by
   simp only [Bool.and_eq_false_iff,decide_eq_false_iff_not]; omega
  rw [this]
  rfl
theorem zIU {z : Int} {vt : zJ} {p : Nat} (hz : 1 ≤ z ∧ z ≤ 99) (h1 : 1 ≤ p) (h6 : p ≤ 6) (hv : qj 1048800 vt p = some true) (hs : vt.sz ≤ 10) (wv : vt.wf) (r8 : zA) (hr : r8.Ps.length = p) : ∀ (m k : Nat) (v : Int),k ≤ p → p < m + k → 0 ≤ v → v ≤ 1000000 → ∃ w,0 ≤ w ∧ w ≤ 1000000 ∧
  ∀ (i : Nat) (zs : List zA) (hi : i < zs.length),zs[i] = nbB z vt (psK p k) v → QD 1048800 m p i k zs = some (.inl (zs.set i (nbB z vt (psK p p) w)))
 | 0,k,v,hk,hm,v0,v1 => by omega
 | m + 1,k,v,hk,hm,v0,v1 => by
  by_cases hkp : k < p
  ·obtain ⟨v',a0,a1,e1,e2⟩ := zOI hz h1 h6 hkp hv hs wv v0 v1
   obtain ⟨w,b0,b1,f2⟩ := zIU hz h1 h6 hv hs wv r8 hr m (k + 1) v' hkp (by omega) a0 a1
   refine ⟨w,b0,b1,fun i zs hi hzi => ?_⟩
   ·rw [QD,decide_eq_true (show (k : Int) < (p : Int) by omega),cond_true,zC hi,Option.bind_some,hzi,e1,Option.bind_some,zK (by omega : k ≤ 1099511627776),Int.toNat_natCast,f2 i (zs.set i (nbB z vt (psK p (k + 1)) v')) (by simpa using hi) (by simp),List.set_set]
  ·obtain rfl : k = p := by omega
   refine ⟨v,v0,v1,fun i zs hi hzi => ?_⟩
   ·rw [QD,decide_eq_false (show ¬ (k : Int) < (k : Int) by omega),cond_false,← hzi,List.set_getElem_self]
theorem NU.make_s (z q : Int) : ∃ y y',NU q y y' ∧ Zp 1048800 z q = some y := by
 rcases zHG z q with ⟨_,e1⟩ | ⟨p,vt,rfl,hz,h1,h6,hs,wv,hv,e1⟩
 ·exact ⟨noB,noB,.inl ⟨rfl,rfl⟩,e1⟩
 ·obtain ⟨w,b0,b1,f2⟩ := zIU hz h1 h6 hv hs wv (nbB z vt (psK p 0) 0) (Yk (by omega)) 1048800 0 0 (by omega) (by omega) (by omega) (by omega)
  exact ⟨_,_,.inr ⟨z,p,vt,w,rfl,hz,h1,h6,hs,wv,hv,b0,b1,rfl,rfl,fun i zs hi hzi => f2 i zs hi hzi⟩,e1⟩
theorem zEG (xs : List Int) (q : Int) (h : xs.length ≤ 1048576) : ∀ (m k : Nat) (acc acc' : List zA),k ≤ xs.length → xs.length < m + k → acc.length = k → acc'.length = k → (∀ j (hj : j < acc.length) (hj' : j < acc'.length),NU q acc[j] acc'[j]) → ∃ ys ys' : List zA,Zf 1048800 m xs q k acc = some (.inl ys) ∧ ys.length = xs.length ∧ ys'.length = xs.length ∧ ∀ j (hj : j < ys.length) (hj' : j < ys'.length),NU q ys[j] ys'[j]
 | 0,k,acc,acc',h1,h2,h3,h3',h4 => by omega
 | m + 1,k,acc,acc',h1,h2,h3,h3',h4 => by
  rw [Zf]
  by_cases hk : k < xs.length
  ·obtain ⟨y,y',u,e1⟩ := NU.make_s xs[k] q
   rw [zh hk,cond_true,zC hk,Option.bind_some,e1,Option.bind_some,decide_eq_true (by simp; omega),cond_true,zK (by omega : k ≤ 1099511627776)]
   exact zEG xs q h m (k + 1) (acc ++ [y]) (acc' ++ [y']) (by omega) (by omega) (by simp; omega) (by simp; omega) (fun j hj hj' => by
    by_cases hjk : j < k
    ·rw [List.getElem_append_left (by omega),List.getElem_append_left (by omega)]; exact h4 j (by omega) (by omega)
    ·have : j = k := by simp at hj; omega
     subst this
     rw [List.getElem_append_right (by omega),List.getElem_append_right (by omega)]
     simp only [h3,h3',Nat.sub_self,List.getElem_cons_zero]
     exact u)
  ·obtain rfl : k = xs.length := by omega
   rw [zY]
   exact ⟨acc,acc',rfl,h3,h3',h4⟩
theorem zCR (xs : List Int) (q : Int) (h : xs.length ≤ 1048576) : ∀ (m k : Nat) (acc ys : List zA),k ≤ xs.length → acc.length = k → (∀ j (hj : j < acc.length) (hx : j < xs.length),Zp 1048800 xs[j] q = some acc[j]) → Zf 1048800 m xs q k acc = some (.inl ys) → ∀ j (hj : j < ys.length) (hx : j < xs.length),Zp 1048800 xs[j] q = some ys[j]
 | 0,k,acc,ys,_,_,_,h => by cases h
 | m + 1,k,acc,ys,h1,h2,h3,e => by
  rw [Zf] at e
  by_cases hk : k < xs.length
  ·obtain ⟨y,y',u,e1⟩ := NU.make_s xs[k] q
   rw [zh hk,cond_true,zC hk,Option.bind_some,e1,Option.bind_some,decide_eq_true (by simp; omega),cond_true,zK (by omega : k ≤ 1099511627776)] at e
   refine zCR xs q h m (k + 1) (acc ++ [y]) ys (by omega) (by simp; omega) (fun j hj hx => ?_) e
   by_cases hjk : j < k
   ·rw [List.getElem_append_left (by omega)]
    exact h3 j (by omega) hx
   ·have : j = k := by simp at hj; omega
    subst this
    rw [List.getElem_append_right (by omega)]
    simp only [h2,Nat.sub_self,List.getElem_cons_zero]
    exact e1
  ·obtain rfl : k = xs.length := by omega
   rw [zY] at e
   cases e
   exact h3
theorem zKA (xs : List Int) (p : Nat) (ls : List Link) (h0 : 1 ≤ xs.length) (h6 : xs.length ≤ 6) (hx : ∀ j (hj : j < xs.length),1 ≤ xs[j] ∧ xs[j] ≤ 99) (hd : ∀ i j (hj : j < xs.length) (hij : i < j),xs[i] ≠ xs[j]) (hp0 : 1 ≤ p) (hp : p ≤ 6) (hl : zEp xs.length p ls) :
  ∃ ys : List zA,zAo 1048800 xs p ls = some ⟨ys,ls,[]⟩ ∧ zx 1048800 ⟨ys,ls,[]⟩ ∧ ys.length = xs.length ∧ ∀ j (hj : j < ys.length),ys[j].Ps.length = p ∧ ∀ k (hk : k < ys[j].Ps.length),ys[j].Ps[k].Up = true := by
 have hm : maxLen = 9223372036854775807 := by decide
 have h9 := hl.1
 have wl : YK Link.wf ls := ⟨by omega,fun l hl' => by
  obtain ⟨a,b,x,y,rfl,ha,hb,hx',hy,_⟩ := hl.2.1 l hl'
  exact ⟨zq (z := (a : Int)) (by omega) (by omega),zq (z := (x : Int)) (by omega) (by omega),zq (z := (b : Int)) (by omega) (by omega),zq (z := (y : Int)) (by omega) (by omega),trivial⟩⟩
 have big : ∀ ys : List zA,ys.length ≤ 1048576 → (∀ y ∈ ys,y.wf ∧ y.sz ≤ 16) → (⟨ys,ls,[]⟩ : Net).wf ∧ Big ⟨ys,ls,[]⟩ := fun ys hy hw => ⟨⟨⟨by simp only; omega,fun y hy => (hw y hy).1⟩,wl,⟨Nat.zero_le _,fun _ hs => by cases hs⟩,trivial⟩,hy,fun a ha => by have := (hw a ha).2; omega,by simp only; omega,Nat.zero_le _⟩
 obtain ⟨ys,ys',e1,l1,l2,hu⟩ := zEG xs p (by omega) 1048800 0 [] [] (by omega) (by omega) rfl rfl (fun j hj => absurd hj (Nat.not_lt_zero j))
 have each := zCR xs p (by omega) 1048800 0 [] ys (by omega) rfl (fun j hj => absurd hj (Nat.not_lt_zero j)) e1
 have nb : ∀ j (hj : j < ys.length),ys[j].Id = xs[j]'(by omega) ∧ ys[j].Ps.length = p ∧ zR 1048800 ys[j] = some true := fun j hj => by
  have hxj : j < xs.length := by omega
  have e := each j hj hxj
  rcases zHG xs[j] p with ⟨hno,_⟩ | ⟨p',vt,hpp,hz,q1,q6,hs,wv,hv,e2⟩
  ·exact absurd ⟨hx j hxj,by omega,by omega⟩ hno
  ·obtain rfl : p = p' := by omega
   rw [e] at e2
   have e3 := Option.some.inj e2
   rw [e3]
   exact ⟨rfl,Yk (by omega),zIB hz q1 q6 (by omega) hv (by omega) (by omega)⟩
 have fy : ∀ y ∈ ys,y.wf ∧ y.sz ≤ 16 := fun y hy => by
  obtain ⟨j,hj,rfl⟩ := List.getElem_of_mem hy
  have f := (hu j hj (by omega)).facts
  exact ⟨f.1,f.2.2.1⟩
 have fy' : ∀ y ∈ ys',y.wf ∧ y.sz ≤ 16 := fun y hy => by
  obtain ⟨j,hj,rfl⟩ := List.getElem_of_mem hy
  have f := (hu j (by omega) hj).facts
  exact ⟨f.2.1,f.2.2.2.1⟩
 obtain ⟨w1,b1⟩ := big ys (by omega) fy
 obtain ⟨w2,b2⟩ := big ys' (by omega) fy'
 obtain ⟨b,o1,_,_,o4⟩ := zG0 1048800 _ w1 b1 (by omega)
 have port : ∀ (a x : Nat),a < ys.length → x < p → ∃ v,zj ⟨ys,ls,[]⟩ a x = some v ∧ v.Up = false := fun a x ha hx' => by
  have hl := (nb a ha).2.1
  refine ⟨ys[a].Ps[x]'(by omega),?_,((hu a ha (by omega)).facts.2.2.2.2.2.2.2.1 x (by omega)).1⟩
  unfold zj
  simp only
  rw [zC ha,Option.bind_some,zC (by omega)]
 have hc : zF2 1048800 ⟨ys,ls,[]⟩ := by
  refine ⟨fun k _ hk => ⟨(nb k hk).2.2,fun j hj => ?_,fun q hq hh => ?_⟩,⟨by simp only; omega,by simp only; omega⟩,hl.1,Nat.zero_le _,fun k hk => ?_⟩
  ·have hk' : k < ys.length := hk
   simp only
   rw [(nb j (by omega)).1,(nb k hk').1]
   exact hd j k (by omega) hj
  ·have hk' : k < ys.length := hk
   have f := ((hu k hk' (by omega)).facts.2.2.2.2.2.2.2.1 q hq).2
   simp only at hh
   rw [f] at hh
   cases hh
  ·have hk' : k < ls.length := hk
   obtain ⟨a,b,x,y,e,ha,hb,hx',hy,hab⟩ := hl.2.1 ls[k] (List.getElem_mem hk')
   simp only
   have one : ∀ c z : Int,zf c z ls[k] = true → qO (qV c z) ls = 1 := fun c z hcz => by
    have c1 := zCc.1 hcz
    have c2 := zFn (qV c z) ls _ (List.getElem_mem hk')
    have c3 := hl.2.2 c z
    omega
   refine ⟨?_,one _ _ (qy.2 (.inl ⟨rfl,rfl⟩)),one _ _ (qy.2 (.inr ⟨rfl,rfl⟩))⟩
   rw [e]
   obtain ⟨v,v1,v2⟩ := port a x (by omega) hx'
   obtain ⟨w,w1,w2⟩ := port b y (by omega) hy
   exact ⟨fun h => by simp only at h; omega,v,w,v1,w1,v2.trans w2.symm⟩
 obtain rfl := o4 rfl hc
 have nob : ∀ j (hj : j < ys.length),ys[j] ≠ noB := fun j hj e => by
  have := (nb j hj).2.1
  rw [e] at this
  simp only [noB,List.length_nil] at this
  omega
 have l3 := zDe p ys ys' (by omega) (by omega) hu nob 1048800 0 ys (by omega) (by omega) rfl (fun j hj => by rw [if_neg (by omega)])
 refine ⟨ys',?_,⟨w2,b2,(zMu p ls ys ys' (by omega) hu).1 hc,fun s hs => by cases hs⟩,by omega,fun j hj => ?_⟩
 ·have hg : decide (([] : List Link).length + ls.length ≤ 268435456) = true := decide_eq_true (by simp; omega)
  unfold zAo
  rw [hg,cond_true,show Zf 1048800 1048800 xs p 0 [] = _ from e1]
  simp only [Option.bind_some,Jj,List.nil_append]
  rw [o1]
  simp only [Option.bind_some,Bool.not_true,cond_false]
  rw [show Ze 1048800 1048800 p 0 ys = _ from l3]
  rfl
 ·have f := (hu j (by omega) hj).facts
  exact ⟨by have := (nb j (by omega)).2.1; have := f.2.2.2.2.2.1; omega,fun k hk => (f.2.2.2.2.2.2.2.2 k hk).1⟩
theorem zMK (r q : Nat) (hq : q ≤ 6) : (∀ j (hj : j < ((List.range q).map (fun k => ((1 + (r + k * 3) % 7 : Nat) : Int))).length),1 ≤ ((List.range q).map (fun k => ((1 + (r + k * 3) % 7 : Nat) : Int)))[j] ∧ ((List.range q).map (fun k => ((1 + (r + k * 3) % 7 : Nat) : Int)))[j] ≤ 99) ∧
  ∀ i j (hj : j < ((List.range q).map (fun k => ((1 + (r + k * 3) % 7 : Nat) : Int))).length) (hij : i < j),((List.range q).map (fun k => ((1 + (r + k * 3) % 7 : Nat) : Int)))[i] ≠ ((List.range q).map (fun k => ((1 + (r + k * 3) % 7 : Nat) : Int)))[j] := by
 refine ⟨fun j hj => ?_,fun i j hj hij => ?_⟩
 ·rw [List.getElem_map,List.getElem_range]
  omega
 ·have hj' : j < q := by simpa using hj
  rw [List.getElem_map,List.getElem_range,List.getElem_map,List.getElem_range]
  omega
theorem zHl (c : Src) (hc : c.ok) (z : Int) (z0 : 0 ≤ z) (z1 : z ≤ 100) : ∃ (y : Net) (c' : Src),zAE 1048800 c z = some (y,c') ∧ zx 1048800 y ∧ c'.ok := by
 obtain ⟨v1,c1,e1,a1,b1,g1⟩ := qN 1048800 c 6 hc
 obtain ⟨v2,c2,e2,a2,b2,g2⟩ := qN 1048800 c1 4 g1
 have b1 := b1 (by decide)
 have b2 := b2 (by decide)
 obtain ⟨v1,rfl⟩ := Int.eq_ofNat_of_zero_le a1
 obtain ⟨v2,rfl⟩ := Int.eq_ofNat_of_zero_le a2
 have t1 : IntKind.wrap .i64 (1 + (v1 : Int)) = ((1 + v1 : Nat) : Int) := by rw [wrap64 (by omega) (by omega)]; omega
 have t2 : IntKind.wrap .i64 (2 + (v2 : Int)) = ((2 + v2 : Nat) : Int) := by rw [wrap64 (by omega) (by omega)]; omega
 obtain ⟨r,c3,e3,g3⟩ := zIO 1048800 c2 (1 + v1) (by omega) (by omega) g2
 obtain ⟨ls,c4,e4,l4,g4⟩ := zG3 (n := 1048800) (by omega) (q := 1 + v1) (p := 2 + v2) (by omega) (by omega) (by omega) (by omega) c3 g3
 obtain ⟨i1,i2⟩ := zMK r (1 + v1) (by omega)
 have hlen : ((List.range (1 + v1)).map (fun k => ((1 + (r + k * 3) % 7 : Nat) : Int))).length = 1 + v1 := by simp
 obtain ⟨ys,e5,n5,_⟩ := zKA _ (2 + v2) ls (by omega) (by omega) i1 i2 (by omega) (by omega) (by rw [hlen]; exact l4)
 have h6 := n5.2.2.1.2.1.2
 simp only at h6
 obtain ⟨zs,c6,n6,l6,g6,e6⟩ := zDN (n := 1048800) (by omega) 1048800 0 ys c4 n5 g4 (by omega) (by omega)
 obtain ⟨v7,c7,e7,a7,b7,g7⟩ := qN 1048800 c6 (IntKind.wrap .i64 (z + 1)) g6
 have t7 : IntKind.wrap .i64 (z + 1) = z + 1 := wrap64 (by omega) (by omega)
 have b7 := b7 (by omega)
 obtain ⟨v7,rfl⟩ := Int.eq_ofNat_of_zero_le a7
 obtain ⟨y,c8,n8,g8,e8⟩ := zDM (n := 1048800) (by omega) 1048800 v7 ⟨zs,ls,[]⟩ c7 n6 g7 (by omega) (by omega)
 refine ⟨y,c8,?_,n8,g8⟩
 unfold zAE JJ
 rw [e1]
 simp only [Option.bind_some]
 rw [e2]
 simp only [Option.bind_some,t1,t2]
 rw [e3]
 simp only [Option.bind_some]
 rw [e4]
 simp only [Option.bind_some]
 rw [e5]
 simp only [Option.bind_some]
 rw [show ZQ 1048800 1048800 0 ys c4.b c4.i c4.h = _ from e6]
 simp only [Option.bind_some]
 rw [show zp 1048800 ⟨c6.b,c6.i,c6.h⟩ (IntKind.wrap .i64 (z + 1)) = _ from e7]
 simp only [Option.bind_some]
 rw [show QM 1048800 1048800 v7 c7.b c7.i c7.h zs ls [] = _ from e8]
 rfl
theorem zHe (x0 : List Int) (h : x0.length ≤ 1048576) : ∃ (y : Net) (zs : List Event),zAB 1048800 x0 = some (y,zs) ∧ zx 1048800 y ∧ zs.length ≤ 10 := by
 obtain ⟨c,e1,g1⟩ := zI2 1048800 x0 (by omega) (by omega)
 have t0 : Int.tdiv (x0.length : Int) 12 = ((x0.length / 12 : Nat) : Int) := by rw [Int.tdiv_eq_ediv_of_nonneg (by omega)]; omega
 have t1 : IntKind.wrap .i64 ((x0.length / 12 : Nat) : Int) = ((x0.length / 12 : Nat) : Int) := wrap64 (by omega) (by omega)
 have t2 : IntKind.wrap .i64 (3 + ((x0.length / 12 : Nat) : Int)) = ((3 + x0.length / 12 : Nat) : Int) := by rw [wrap64 (by omega) (by omega)]; omega
 obtain ⟨s,e2,s0,s1⟩ : ∃ s,zAr 1048800 x0 20 = some s ∧ 0 ≤ s ∧ s ≤ 20 := by
  unfold zAr
  rw [t0,t1,t2,show decide ((12 : Int) ≠ 0) = true from by decide,cond_true]
  by_cases hs : ((3 + x0.length / 12 : Nat) : Int) > 20
  ·rw [decide_eq_true hs]; exact ⟨20,rfl,by omega,by omega⟩
  ·rw [decide_eq_false hs]; exact ⟨_,rfl,by omega,by omega⟩
 obtain ⟨y,c2,e3,n3,g3⟩ := zHl c g1 (6 + s) (by omega) (by omega)
 obtain ⟨zs,c4,e4,l4,_⟩ := zGd 1048800 c2 g3 (by omega)
 refine ⟨y,zs,?_,n3,l4⟩
 unfold zAB
 rw [e1,Option.bind_some,e2,Option.bind_some,show IntKind.wrap .i64 (6 + s) = 6 + s from wrap64 (by omega) (by omega),e3,Option.bind_some,e4]
 rfl
theorem zEi (n : Nat) (x : Net) {a p : Nat} (ha : a < x.Bs.length) (hp : p < x.Bs[a].Ps.length) (h1 : x.Bs.length ≤ 1000) (h2 : x.Bs[a].Ps.length ≤ 1000) : Qr n x a p = some x.Bs[a].Ps[p].Up := by
 unfold Qr
 rw [zL,Option.bind_some,wrap64 (by omega) (by omega),decide_eq_true (show (0 : Int) ≤ a by omega),decide_eq_true (show (a : Int) ≤ (x.Bs.length : Int) - 1 by omega),Bool.and_true,cond_true,zC ha,Option.bind_some,zL,Option.bind_some,wrap64 (by omega) (by omega),decide_eq_true (show (0 : Int) ≤ p by omega),decide_eq_true (show (p : Int) ≤ (x.Bs[a].Ps.length : Int) - 1 by omega),Bool.and_true,cond_true,Option.bind_some,zC hp]
 rfl
theorem zx.linkV {n : Nat} {x : Net} (hx : zx n x) {k : Nat} (hk : k < x.Ls.length) : ∃ p q : Pt,zj x x.Ls[k].A x.Ls[k].P = some p ∧ zj x x.Ls[k].B x.Ls[k].Q = some q ∧ p.Up = q.Up ∧ qu n x k = some p.Up ∧ zU n x k = some p.Up ∧ (p.Up = false → p.Has = false) ∧ (q.Up = false → q.Has = false) := by
 obtain ⟨a,p,c,q,ha,hc,ea,ep,ec,eq,hac,hp,hq,hp6,hq6⟩ := hx.ends hk
 have h6 := hx.2.2.1.2.1.2
 have h9 := hx.2.2.1.2.2.1
 have sa := (hx.br ha).2.2
 have sc := (hx.br hc).2.2
 have qa : x.Bs[a].Name.size + x.Bs[a].Ps.length + x.Bs[a].F.length + x.Bs[a].V.sz = x.Bs[a].sz := rfl
 have qc : x.Bs[c].Name.size + x.Bs[c].Ps.length + x.Bs[c].F.length + x.Bs[c].V.sz = x.Bs[c].sz := rfl
 have up := hx.up x.Ls[k] (List.getElem_mem hk)
 have pa : zj x x.Ls[k].A x.Ls[k].P = some x.Bs[a].Ps[p] := by
  unfold zj; rw [ea,ep,zC ha,Option.bind_some,zC hp]
 have pc : zj x x.Ls[k].B x.Ls[k].Q = some x.Bs[c].Ps[q] := by
  unfold zj; rw [ec,eq,zC hc,Option.bind_some,zC hq]
 unfold zAu at up
 rw [pa,pc] at up
 have up : x.Bs[a].Ps[p].Up = x.Bs[c].Ps[q].Up := Option.some.inj up
 obtain ⟨u,u1,u2⟩ := hx.link x.Said k
 have u1' : qu n x k = some u := u1
 have hu : u = x.Bs[a].Ps[p].Up := by
  unfold qu at u1'
  rw [zL,Option.bind_some,wrap64 (by omega) (by omega),decide_eq_true (show (0 : Int) ≤ k by omega),decide_eq_true (show (k : Int) ≤ (x.Ls.length : Int) - 1 by omega),Bool.and_true,Bool.not_true,cond_false,zC hk,Option.bind_some,ea,ep,ec,eq,zEi n x ha hp (by omega) (by omega),Option.bind_some,zEi n x hc hq (by omega) (by omega)] at u1'
  simp only [Option.bind_some] at u1'
  cases hh : x.Bs[a].Ps[p].Up with
  | false => rw [hh] at u1'; exact (Option.some.inj u1').symm
  | true => rw [hh,cond_true] at u1'; rw [← Option.some.inj u1',← up]; exact hh
 subst hu
 have has : ∀ (i j : Nat) (hi : i < x.Bs.length) (hj : j < x.Bs[i].Ps.length),x.Bs[i].Ps[j].Up = false → x.Bs[i].Ps[j].Has = false := fun i j hi hj h => by
  have s := (hx.br hi).2.2
  have qs : x.Bs[i].Name.size + x.Bs[i].Ps.length + x.Bs[i].F.length + x.Bs[i].V.sz = x.Bs[i].sz := rfl
  obtain ⟨p1,p2,p3,p4,p5,p6,p7,p8,p9,p10,p11,p12,p13⟩ := qK n _ (by omega) (hx.br hi).1
  cases hh : x.Bs[i].Ps[j].Has with
  | false => rfl
  | true => have := ((YW n _ (p13 j hj)).2.1 hh).1; rw [h] at this; cases this
 exact ⟨_,_,pa,pc,up,u1,u2,has a p ha hp,has c q hc hq⟩
theorem zKk (n : Nat) (x0 : List Int) (w0 : YK zF6 x0) (h : x0.length ≤ 1048576) (i : Nat) (hi : i ≤ 1000) : ∃ r : Nat,zBr n x0 i = some (r : Int) ∧ r ≤ 255 := by
 unfold zBr
 by_cases hl : i < x0.length
 ·have hb := w0.2 _ (List.getElem_mem hl)
  have hb : 0 ≤ x0[i] ∧ x0[i] ≤ 255 := by
   unfold zF6 Lit.wf at hb
   rw [Bool.and_eq_true,decide_eq_true_iff,decide_eq_true_iff,show IntKind.min .u8 = 0 from rfl,show IntKind.max .u8 = 255 from rfl] at hb
   exact hb
  rw [zh hl,cond_true,zC hl,Option.bind_some,wrap64 (by omega) (by omega)]
  obtain ⟨r,hr⟩ := Int.eq_ofNat_of_zero_le hb.1
  exact ⟨r,by rw [hr],by omega⟩
 ·rw [decide_eq_false (by omega),cond_false,show decide ((256 : Int) ≠ 0) = true from by decide,cond_true,wrap64 (z := (i : Int) * 31) (by omega) (by omega),wrap64 (z := (x0.length : Int) * 7) (by omega) (by omega),wrap64 (by omega) (by omega),Int.tmod_eq_emod_of_nonneg (by omega)]
  exact ⟨(i * 31 + x0.length * 7) % 256,by congr 1,by omega⟩
theorem zNK : ∀ a < 64,∀ i < 6,zCb ((a : Nat) : Int) i = a.testBit i := by decide +kernel
def lx2 (a b : Int × Int) : Prop := a.1 < b.1 ∨ (a.1 = b.1 ∧ a.2 < b.2)
instance (a b : Int × Int) : Decidable (lx2 a b) := inferInstanceAs (Decidable (_ ∨ _))
def le4 (a b : Int × Int × Int × Int) : Prop := a.1 < b.1 ∨ (a.1 = b.1 ∧ (a.2.1 < b.2.1 ∨ (a.2.1 = b.2.1 ∧ (a.2.2.1 < b.2.2.1 ∨ (a.2.2.1 = b.2.2.1 ∧ a.2.2.2 ≤ b.2.2.2)))))
def zJp (v : Int × Int × Int) (w : Int) : Prop := v.2.1 + w ≤ 100000 ∧ v.2.2 + 1 ≤ 10
theorem filter_lt {α : Type} (p q : α → Bool) (h : ∀ a,p a = true → q a = true) : ∀ (l : List α),(l.filter p).length ≤ (l.filter q).length ∧ ((∃ a ∈ l,q a = true ∧ p a = false) → (l.filter p).length < (l.filter q).length)
 | [] => ⟨Nat.le_refl _,fun ⟨a,ha,_⟩ => by cases ha⟩
 | x :: xs => by
  obtain ⟨h1,h2⟩ := filter_lt p q h xs
  simp only [List.filter_cons]
  cases hp : p x with
  | true =>
   rw [h x hp]
   refine ⟨by simp; omega,fun ⟨a,ha,ha1,ha2⟩ => ?_⟩
   rcases List.mem_cons.1 ha with rfl | ha
   ·rw [hp] at ha2; cases ha2
   ·have := h2 ⟨a,ha,ha1,ha2⟩
    simp; omega
  | false =>
   cases hq : q x with
   | true =>
    refine ⟨by simp; omega,fun _ => by simp; omega⟩
   | false =>
    refine ⟨by simpa using h1,fun ⟨a,ha,ha1,ha2⟩ => ?_⟩
    rcases List.mem_cons.1 ha with rfl | ha
    ·rw [hq] at ha1; cases ha1
    ·simpa using h2 ⟨a,ha,ha1,ha2⟩
def zCr (v : Vec) : Int × Int × Int × Int := (v.Root,v.Co,v.Bridge,v.Port)
theorem zKm (n : Nat) (a b : Vec) : ∃ t,ZX n a b = some t ∧ (t = true → le4 (zCr a) (zCr b)) ∧ (t = false → le4 (zCr b) (zCr a)) := by
 unfold ZX le4 zCr
 simp only
 by_cases h1 : a.Root = b.Root
 ·rw [show (a.Root != b.Root) = false from by simp [h1],cond_false]
  by_cases h2 : a.Co = b.Co
  ·rw [show (a.Co != b.Co) = false from by simp [h2],cond_false]
   by_cases h3 : a.Bridge = b.Bridge
   ·rw [show (a.Bridge != b.Bridge) = false from by simp [h3],cond_false]
    exact ⟨_,rfl,fun h => by have := of_decide_eq_true h; omega,fun h => by have := of_decide_eq_false h; omega⟩
   ·rw [show (a.Bridge != b.Bridge) = true from by simpa using h3,cond_true]
    exact ⟨_,rfl,fun h => by have := of_decide_eq_true h; omega,fun h => by have := of_decide_eq_false h; omega⟩
  ·rw [show (a.Co != b.Co) = true from by simpa using h2,cond_true]
   exact ⟨_,rfl,fun h => by have := of_decide_eq_true h; omega,fun h => by have := of_decide_eq_false h; omega⟩
 ·rw [show (a.Root != b.Root) = true from by simpa using h1,cond_true]
  exact ⟨_,rfl,fun h => by have := of_decide_eq_true h; omega,fun h => by have := of_decide_eq_false h; omega⟩
theorem le4.trans {a b c : Int × Int × Int × Int} (h1 : le4 a b) (h2 : le4 b c) : le4 a c := by
 unfold le4 at *
 omega
theorem le4.rfl' (a : Int × Int × Int × Int) : le4 a a := by
 unfold le4
 omega
theorem zEx (n : Nat) (v : Vec) (h : zm n v = some true) : (1 ≤ v.Root ∧ v.Root ≤ 99) ∧ (0 ≤ v.Co ∧ v.Co ≤ 100000) ∧ (0 ≤ v.Hops ∧ v.Hops ≤ 10) ∧ (1 ≤ v.Bridge ∧ v.Bridge ≤ 99) ∧ (0 ≤ v.Port ∧ v.Port ≤ 7) := by
 unfold zm at h
 simp only [zL,Option.bind_some] at h
 cases h1 : (decide (1 ≤ v.Root) && decide (v.Root ≤ 99)) with
 | false => rw [h1] at h; cases h
 | true =>
  cases h2 : (decide (0 ≤ v.Co) && decide (v.Co ≤ 100000)) with
  | false => rw [h1,h2] at h; cases h
  | true =>
   cases h3 : (decide (0 ≤ v.Hops) && decide (v.Hops ≤ 10)) with
   | false => rw [h1,h2,h3] at h; cases h
   | true =>
    cases h4 : (decide (1 ≤ v.Bridge) && decide (v.Bridge ≤ 99)) with
    | false => rw [h1,h2,h3,h4] at h; cases h
    | true =>
     rw [h1,h2,h3,h4] at h
     simp only [cond_true,Option.some.injEq,Bool.and_eq_true,decide_eq_true_eq] at h h1 h2 h3 h4
     exact ⟨h1,h2,h3,h4,h⟩
def zJh (p : Pt) : Prop := p.Hd.Co + p.Co ≤ 100000 ∧ p.Hd.Hops + 1 ≤ 10
def zGr (v : Vec) (c : Int) : Vec := ⟨v.Root,v.Co + c,v.Hops + 1,v.Bridge,v.Port⟩
theorem zK2 (n : Nat) (p : Pt) (hc : 1 ≤ p.Co ∧ p.Co ≤ 1000) (hv : zm n p.Hd = some true) : (zJh p ∧ ZY n p.Hd p.Co = some (zGr p.Hd p.Co,true)) ∨ (¬ zJh p ∧ ∃ w,ZY n p.Hd p.Co = some (w,false)) := by
 obtain ⟨a1,a2,a3,a4,a5⟩ := zEx n _ hv
 unfold ZY
 rw [hv,Option.bind_some,Bool.not_true,cond_false,zL,Option.bind_some,decide_eq_true hc.1,decide_eq_true hc.2,Bool.and_self,Bool.not_true,cond_false,wrap64 (z := p.Hd.Co + p.Co) (by omega) (by omega),wrap64 (z := p.Hd.Hops + 1) (by omega) (by omega)]
 obtain ⟨b,hb⟩ := JH n ⟨p.Hd.Root,p.Hd.Co + p.Co,p.Hd.Hops + 1,p.Hd.Bridge,p.Hd.Port⟩
 by_cases hu : zJh p
 ·have := (zDW n ⟨p.Hd.Root,p.Hd.Co + p.Co,p.Hd.Hops + 1,p.Hd.Bridge,p.Hd.Port⟩).2 ⟨a1,⟨by simp only; omega,hu.1⟩,⟨by simp only; omega,hu.2⟩,a4,a5⟩
  rw [this,Option.bind_some,Bool.not_true,cond_false]
  exact .inl ⟨hu,rfl⟩
 ·refine .inr ⟨hu,p.Hd,?_⟩
  cases b with
  | true =>
   have := zEx n _ hb
   simp only at this
   exact absurd ⟨this.2.1.2,this.2.2.1.2⟩ hu
  | false => rw [hb]; rfl
def zBT (id : Int) (p : Pt) : Prop := p.Up = true ∧ p.Has = true ∧ zJh p ∧ p.Hd.Root < id
def zFX (p : Pt) : Int × Int × Int × Int := (p.Hd.Root,p.Hd.Co + p.Co,p.Hd.Bridge,p.Hd.Port)
def zHq (id : Int) (l : List Pt) (k : Nat) (y2 y3 y4 y5 y6 y7 y8 y9 y10 : Int) : Prop :=
 (y2 < 0 ∧ y8 = id ∧ y9 = 0 ∧ y10 = 0 ∧ ∀ j (hj : j < l.length),j < k → ¬ zBT id l[j]) ∨
 (0 ≤ y2 ∧ ∃ j,∃ hj : j < l.length,(zBT id l[j] ∧ y2 = (j : Int)) ∧ (⟨y3,y4,y5,y6,y7⟩ : Vec) = zGr l[j].Hd l[j].Co ∧ y8 = y3 ∧ y9 = y4 ∧ y10 = y5 ∧ ∀ j' (hj' : j' < l.length),j' < k → zBT id l[j'] → le4 (zFX l[j]) (zFX l[j']))
theorem zHq.skip {id : Int} {l : List Pt} {k : Nat} {y2 y3 y4 y5 y6 y7 y8 y9 y10 : Int} (h : zHq id l k y2 y3 y4 y5 y6 y7 y8 y9 y10) (hk : ∀ hk : k < l.length,¬ zBT id l[k]) : zHq id l (k + 1) y2 y3 y4 y5 y6 y7 y8 y9 y10 := by
 rcases h with ⟨a,b,c,d,e⟩ | ⟨a,j,hj,b,c,d,e,f,g⟩
 ·refine .inl ⟨a,b,c,d,fun j hj hjk => ?_⟩
  by_cases hjk' : j = k
  ·subst hjk'; exact hk hj
  ·exact e j hj (by omega)
 ·refine .inr ⟨a,j,hj,b,c,d,e,f,fun j' hj' hjk hc => ?_⟩
  by_cases hjk' : j' = k
  ·subst hjk'; exact absurd hc (hk hj')
  ·exact g j' hj' (by omega) hc
theorem zF5 (n : Nat) (id : Int) (l : List Pt) (h : l.length ≤ 1000) (hp : ∀ j (hj : j < l.length),qE n l[j] = some true) : ∀ (m k : Nat) (y2 y3 y4 y5 y6 y7 y8 y9 y10 : Int),k ≤ l.length → l.length < m + k → zHq id l k y2 y3 y4 y5 y6 y7 y8 y9 y10 → ∃ z2 z3 z4 z5 z6 z7 z8 z9 z10,ze n m id l k y2 y3 y4 y5 y6 y7 y8 y9 y10 = some (.inl (z2,z8,z9,z10)) ∧ zHq id l l.length z2 z3 z4 z5 z6 z7 z8 z9 z10
 | 0,k,y2,y3,y4,y5,y6,y7,y8,y9,y10,h1,h2,hi => by omega
 | m + 1,k,y2,y3,y4,y5,y6,y7,y8,y9,y10,h1,h2,hi => by
  rw [ze]
  by_cases hk : k < l.length
  ·have ih := fun y2 y3 y4 y5 y6 y7 y8 y9 y10 hi => zF5 n id l h hp m (k + 1) y2 y3 y4 y5 y6 y7 y8 y9 y10 (by omega) (by omega) hi
   have hv := zC hk
   simp only [zh hk,cond_true,hv,Option.bind_some,zK (by omega : k ≤ 1099511627776),ZP]
   cases hu : l[k].Up
   ·simp only [Bool.not_false,cond_true]
    exact ih _ _ _ _ _ _ _ _ _ (hi.skip fun _ hc => by have := hc.1; rw [hu] at this; cases this)
   cases hh : l[k].Has
   ·simp only [Bool.not_false,Bool.not_true,cond_true,cond_false]
    exact ih _ _ _ _ _ _ _ _ _ (hi.skip fun _ hc => by have := hc.2.1; rw [hh] at this; cases this)
   obtain ⟨pc,pv,_⟩ := YW n _ (hp k hk)
   simp only [Bool.not_true,cond_false]
   rcases zK2 n l[k] pc (pv hh).2 with ⟨us,es⟩ | ⟨us,w,es⟩
   ·simp only [es,Option.bind_some,cond_true]
    by_cases hl : (zGr l[k].Hd l[k].Co).Root < id
    ·have hcand : zBT id l[k] := ⟨hu,hh,us,hl⟩
     rw [decide_eq_true hl,cond_true]
     by_cases hy : y2 < 0
     ·rw [decide_eq_true hy,cond_true]
      refine ih _ _ _ _ _ _ _ _ _ (.inr ⟨by omega,k,hk,⟨hcand,rfl⟩,rfl,rfl,rfl,rfl,fun j' hj' hjk hc => ?_⟩)
      by_cases hjk' : j' = k
      ·subst hjk'; exact le4.rfl' _
      ·rcases hi with ⟨_,_,_,_,e⟩ | ⟨a,_⟩
       ·exact absurd hc (e j' hj' (by omega))
       ·omega
     ·rw [decide_eq_false hy,cond_false]
      rcases hi with ⟨a,_⟩ | ⟨a,j,hj,b,c,d,e,f,g⟩
      ·omega
      obtain ⟨t,t1,t2,t3⟩ := zKm n (zGr l[k].Hd l[k].Co) ⟨y3,y4,y5,y6,y7⟩
      have kk : zCr (zGr l[k].Hd l[k].Co) = zFX l[k] := rfl
      have kj : zCr (⟨y3,y4,y5,y6,y7⟩ : Vec) = zFX l[j] := by rw [c]; rfl
      rw [kk,kj] at t2 t3
      rw [t1,Option.bind_some]
      cases t with
      | true =>
       rw [cond_true]
       refine ih _ _ _ _ _ _ _ _ _ (.inr ⟨by omega,k,hk,⟨hcand,rfl⟩,rfl,rfl,rfl,rfl,fun j' hj' hjk hc => ?_⟩)
       by_cases hjk' : j' = k
       ·subst hjk'; exact le4.rfl' _
       ·exact (t2 rfl).trans (g j' hj' (by omega) hc)
      | false =>
       rw [cond_false]
       refine ih _ _ _ _ _ _ _ _ _ (.inr ⟨a,j,hj,b,c,d,e,f,fun j' hj' hjk hc => ?_⟩)
       by_cases hjk' : j' = k
       ·subst hjk'; exact t3 rfl
       ·exact g j' hj' (by omega) hc
    ·rw [decide_eq_false hl,cond_false]
     exact ih _ _ _ _ _ _ _ _ _ (hi.skip fun _ hc => hl hc.2.2.2)
   ·simp only [es,Option.bind_some,cond_false]
    exact ih _ _ _ _ _ _ _ _ _ (hi.skip fun _ hc => us hc.2.2.1)
  ·obtain rfl : k = l.length := by omega
   rw [zY]
   exact ⟨y2,y3,y4,y5,y6,y7,y8,y9,y10,rfl,hi⟩
theorem zJk (n : Nat) (id : Int) (l : List Pt) (h : l.length ≤ 1000) (hn : 1000 < n) (hp : ∀ j (hj : j < l.length),qE n l[j] = some true) : ∃ (r c s p : Int),ZI n id l = some ((⟨r,c,s,id,0⟩ : Vec),p) ∧
  ((p < 0 ∧ (r,c,s) = (id,(0 : Int),(0 : Int)) ∧ ∀ j (hj : j < l.length),¬ zBT id l[j]) ∨ ∃ j,∃ hj : j < l.length,zBT id l[j] ∧ p = (j : Int) ∧ (r,c,s) = (l[j].Hd.Root,l[j].Hd.Co + l[j].Co,l[j].Hd.Hops + 1) ∧ ∀ j' (hj' : j' < l.length),zBT id l[j'] → le4 (zFX l[j]) (zFX l[j'])) := by
 obtain ⟨z2,z3,z4,z5,z6,z7,z8,z9,z10,e,i⟩ := zF5 n id l h hp n 0 (-1) 0 0 0 0 0 id 0 0 (by omega) (by omega) (.inl ⟨by omega,rfl,rfl,rfl,fun j _ hj => by omega⟩)
 refine ⟨z8,z9,z10,z2,?_,?_⟩
 ·unfold ZI
  rw [show ze n n id l 0 (-1) 0 0 0 0 0 id 0 0 = _ from e]
  rfl
 ·rcases i with ⟨a,b,c,d,f⟩ | ⟨_,j,hj,⟨b,b2⟩,c,d,f,g,k⟩
  ·exact .inl ⟨a,by rw [b,c,d],fun j hj => f j hj hj⟩
  ·refine .inr ⟨j,hj,b,b2,?_,fun j' hj' hc => k j' hj' hj' hc⟩
   unfold zGr at c
   injection c with c1 c2 c3
   rw [d,f,g,c1,c2,c3]
def zAm (n : Nat) (x : Net) (b q : Int) : Vec := (Zo n x b q).getD ⟨0,0,0,0,0⟩
theorem J5 {n : Nat} {x : Net} (hn : 1048700 < n) (hx : zx n x) {i : Nat} (hi : i < x.Bs.length) (q : Nat) (hq : q < 6) : Zo n x i q = some (zAm n x i q) ∧ qZ n x.Bs[i].Id x.Bs[i].Ps q = some (zAm n x i q) ∧ zm n (zAm n x i q) = some true := by
 obtain ⟨v,v1,v2,_⟩ := hx.say hn hi q hq
 have e : Zo n x i q = some v := by rw [zDQ,zC hi]; exact v1
 have : zAm n x i q = v := by unfold zAm; rw [e]; rfl
 rw [this]
 exact ⟨e,v1,v2⟩
def RInv (n : Nat) (x : Net) (k : Nat) (ys : List zA) : Prop :=
 zx n ⟨ys,x.Ls,[]⟩ ∧ ys.length = x.Bs.length ∧ (∀ i (hi : i < x.Bs.length) (hi' : i < ys.length),ys[i].Id = x.Bs[i].Id ∧ ys[i].Ps.length = x.Bs[i].Ps.length) ∧
 (∀ k' (hk' : k' < x.Ls.length),k' < k → zU n x k' = some true → ∃ p q : Pt,zj x x.Ls[k'].A x.Ls[k'].P = some p ∧ zj x x.Ls[k'].B x.Ls[k'].Q = some q ∧ zj ⟨ys,x.Ls,[]⟩ x.Ls[k'].A x.Ls[k'].P = some ⟨true,p.Co,true,zAm n x x.Ls[k'].B x.Ls[k'].Q⟩ ∧ zj ⟨ys,x.Ls,[]⟩ x.Ls[k'].B x.Ls[k'].Q = some ⟨true,q.Co,true,zAm n x x.Ls[k'].A x.Ls[k'].P⟩) ∧
 ∀ b p : Int,(∀ k' (hk' : k' < x.Ls.length),k' < k → zU n x k' = some true → zf b p x.Ls[k'] = false) → zj ⟨ys,x.Ls,[]⟩ b p = zj x b p
theorem zLp {bs : List zA} {ls : List Link} {ss : List Say} {a c p q : Nat} (ha : a < bs.length) (hc : c < bs.length) (hac : a ≠ c) (hp : p < bs[a].Ps.length) (hq : q < bs[c].Ps.length) (v w : zA) (pv pw : Pt) (hv : v.Ps = bs[a].Ps.set p pv) (hw : w.Ps = bs[c].Ps.set q pw) (b z : Int) : zj ⟨(bs.set a v).set c w,ls,ss⟩ b z = if b = (c : Int) ∧ z = (q : Int) then some pw else if b = (a : Int) ∧ z = (p : Int) then some pv else zj ⟨bs,ls,ss⟩ b z := by
 rw [zCC (bs := bs.set a v) (ss' := ss) (by simpa using hc),zCC (ss' := ss) ha,hv,hw,JA hq,JA hp]
 have self : ∀ {i : Nat} (hi : i < bs.length),idx bs[i].Ps z = zj ⟨bs,ls,ss⟩ (i : Int) z := fun {i} hi => by
  unfold zj
  simp only
  rw [zC hi,Option.bind_some]
 by_cases h1 : b = (c : Int)
 ·subst h1
  have : ¬ ((c : Int) = (a : Int)) := by omega
  by_cases h2 : z = (q : Int)
  ·simp [h2]
  ·rw [if_pos rfl,if_neg h2,if_neg (by rintro ⟨_,h⟩; exact h2 h),if_neg (by rintro ⟨h,_⟩; exact this h),self hc]
 ·rw [if_neg h1]
  by_cases h3 : b = (a : Int)
  ·subst h3
   by_cases h2 : z = (p : Int)
   ·rw [if_pos rfl,if_pos h2,if_neg (by rintro ⟨h,_⟩; exact h1 h),if_pos ⟨rfl,h2⟩]
   ·rw [if_pos rfl,if_neg h2,if_neg (by rintro ⟨h,_⟩; exact h1 h),if_neg (by rintro ⟨_,h⟩; exact h2 h),self ha]
  ·rw [if_neg h3,if_neg (by rintro ⟨h,_⟩; exact h1 h),if_neg (by rintro ⟨h,_⟩; exact h3 h)]
theorem zFi {n : Nat} (hn : 1048700 < n) {x : Net} (hx : zx n x) : ∀ (m k : Nat) (ys : List zA),k ≤ x.Ls.length → x.Ls.length < m + k → RInv n x k ys → ∃ zs,QV n m x k ys x.Ls [] = some (.inl (zs,x.Ls,[])) ∧ RInv n x x.Ls.length zs
 | 0,k,ys,h1,h2,hi => by omega
 | m + 1,k,ys,h1,h2,hi => by
  have h9 := hx.2.2.1.2.2.1
  rw [QV]
  by_cases hk : k < x.Ls.length
  ·obtain ⟨p0,q0,pa,qa,pu,_,u2,_⟩ := hx.linkV hk
   rw [zh hk,cond_true,zC hk,Option.bind_some,u2,Option.bind_some,zK (by omega : k ≤ 1099511627776)]
   obtain ⟨g,i1,i2,i3,i4⟩ := hi
   cases hu : p0.Up with
   | false =>
    rw [hu] at u2
    rw [cond_false]
    refine zFi hn hx m (k + 1) ys (by omega) (by omega) ⟨g,i1,i2,fun k' hk' hlt hup => ?_,fun b p hb => ?_⟩
    ·have hne : k' ≠ k := fun h => by subst h; rw [u2] at hup; cases hup
     exact i3 k' hk' (by omega) hup
    ·exact i4 b p fun k' hk' hlt hup => hb k' hk' (by omega) hup
   | true =>
    rw [hu] at u2
    rw [cond_true]
    obtain ⟨a,p,c,q,ha,hc,ea,ep,ec,eq,hac,hp,hq,hp6,hq6⟩ := hx.ends hk
    obtain ⟨sc1,_,sc3⟩ := J5 hn hx hc q hq6
    obtain ⟨sa1,_,sa3⟩ := J5 hn hx ha p hp6
    have ha' : a < ys.length := by omega
    have hc' : c < ys.length := by omega
    have la := (i2 a ha ha').2
    have lc := (i2 c hc hc').2
    have oth : ∀ k' (hk' : k' < x.Ls.length),k' < k → zf x.Ls[k].A x.Ls[k].P x.Ls[k'] = false ∧ zf x.Ls[k].B x.Ls[k].Q x.Ls[k'] = false := fun k' hk' hlt => hx.other hk hk' (by omega)
    have ya := i4 x.Ls[k].A x.Ls[k].P fun k' hk' hlt _ => (oth k' hk' hlt).1
    have yc := i4 x.Ls[k].B x.Ls[k].Q fun k' hk' hlt _ => (oth k' hk' hlt).2
    rw [pa,ea,ep] at ya
    rw [qa,ec,eq] at yc
    unfold zj at ya yc
    simp only at ya yc
    rw [zC ha',Option.bind_some,zC (by omega : p < ys[a].Ps.length)] at ya
    rw [zC hc',Option.bind_some,zC (by omega : q < ys[c].Ps.length)] at yc
    have ya := Option.some.inj ya
    have yc := Option.some.inj yc
    have hm : x.Ls[k] ∈ x.Ls := List.getElem_mem hk
    obtain ⟨v,_,v2,v3,v4,v5⟩ := zEm hn g (i := a) (p := p) ha' (by simp only; omega) (by simp only; rw [ya]; exact hu) (List.any_eq_true.2 ⟨_,hm,qy.2 (.inl ⟨ea,ep⟩)⟩) (zAm n x c q) sc3
    simp only at v2 v3 v4 v5
    have hsc : (ys.set a v)[c]'(by simpa using hc') = ys[c] := List.getElem_set_ne hac _
    obtain ⟨w,_,w2,w3,w4,w5⟩ := zEm hn v3 (i := c) (p := q) (by simpa using hc') (by simp only [hsc]; omega) (by simp only [hsc]; rw [yc,← pu]; exact hu) (List.any_eq_true.2 ⟨_,hm,qy.2 (.inr ⟨ec,eq⟩)⟩) (zAm n x a p) sa3
    simp only [hsc] at w2 w3 w4 w5
    have hset : idx (ys.set a v) (c : Int) = some ys[c] := by rw [JA ha',if_neg (by omega),zC hc']
    rw [ea,ep,ec,eq]
    simp only [sc1,sa1,Option.bind_some,ZC,zC ha',v2,hset,w2,Int.toNat_natCast]
    have two := zLp (bs := ys) (ls := x.Ls) (ss := []) ha' hc' hac (by omega) (by omega) v w _ _ v5 w5
    refine zFi hn hx m (k + 1) _ (by omega) (by omega) ⟨w3,by simp [i1],fun i hi hi' => ?_,fun k' hk' hlt hup => ?_,fun b z hb => ?_⟩
    ·have hi0 : i < ys.length := by omega
     by_cases hic : c = i
     ·subst hic
      simp only [List.getElem_set_self]
      exact ⟨w4.trans (i2 c hc hc').1,by rw [w5,List.length_set]; exact lc⟩
     ·by_cases hia : a = i
      ·subst hia
       simp only [List.getElem_set_ne hic,List.getElem_set_self]
       exact ⟨v4.trans (i2 a ha ha').1,by rw [v5,List.length_set]; exact la⟩
      ·simp only [List.getElem_set_ne hic,List.getElem_set_ne hia]
       exact i2 i hi hi0
    ·by_cases hkk : k' = k
     ·subst hkk
      refine ⟨p0,q0,pa,qa,?_,?_⟩
      ·rw [two,ea,ep,ec,eq,if_neg (by rintro ⟨h,_⟩; omega),if_pos ⟨rfl,rfl⟩,ya]
      ·rw [two,ea,ep,ec,eq,if_pos ⟨rfl,rfl⟩,yc]
     ·obtain ⟨p',q',j1,j2,j3,j4⟩ := i3 k' hk' (by omega) hup
      obtain ⟨o1,o2⟩ := hx.other hk hk' (fun h => hkk h.symm)
      have o1' := fun h => Bool.eq_false_iff.1 o1 (qy.2 h)
      have o2' := fun h => Bool.eq_false_iff.1 o2 (qy.2 h)
      rw [ea,ep] at o1'
      rw [ec,eq] at o2'
      refine ⟨p',q',j1,j2,?_,?_⟩
      ·rw [two,if_neg (fun h => o2' (.inl h)),if_neg (fun h => o1' (.inl h))]
       exact j3
      ·rw [two,if_neg (fun h => o2' (.inr h)),if_neg (fun h => o1' (.inr h))]
       exact j4
    ·have hb0 := hb k hk (by omega) u2
     have hb' := fun h => Bool.eq_false_iff.1 hb0 (qy.2 h)
     rw [ea,ep,ec,eq] at hb'
     rw [two,if_neg (fun h => hb' (.inr ⟨h.1.symm,h.2.symm⟩)),if_neg (fun h => hb' (.inl ⟨h.1.symm,h.2.symm⟩))]
     exact i4 b z fun k' hk' hlt hup => hb k' hk' (by omega) hup
  ·obtain rfl : k = x.Ls.length := by omega
   rw [zY]
   exact ⟨ys,rfl,hi⟩
theorem zH3 {n : Nat} (hn : 1048700 < n) {x : Net} (hx : zx n x) : ∃ y : Net,Yg n x = some y ∧ y.Ls = x.Ls ∧ y.Said = [] ∧ RInv n x x.Ls.length y.Bs := by
 have hsz := hx.sz
 have h9 := hx.2.2.1.2.2.1
 obtain ⟨zs,e,i⟩ := zFi hn hx n 0 x.Bs (by omega) (by omega) ⟨zGN hx [] (by simp) (fun s hs => by cases hs),rfl,fun i _ _ => ⟨rfl,rfl⟩,fun k' _ h => by omega,fun b p _ => rfl⟩
 refine ⟨⟨zs,x.Ls,[]⟩,?_,rfl,rfl,i⟩
 unfold Yg
 rw [zBp n x (by omega) (by omega),(hx.ok hn).2,Option.bind_some,Option.bind_some,Bool.not_true,cond_false,show QV n n x 0 x.Bs x.Ls [] = _ from e]
 rfl
theorem zLr {n : Nat} (hn : 1048700 < n) {y : Net} (hy : zx n y) : ∃ (B : Nat → List zA) (S : Nat → List Say),B 0 = y.Bs ∧ S 0 = y.Said ∧ ∀ t,zx n ⟨B t,y.Ls,S t⟩ ∧ Yg n ⟨B t,y.Ls,S t⟩ = some ⟨B (t + 1),y.Ls,S (t + 1)⟩ ∧ S (t + 1) = [] ∧ RInv n ⟨B t,y.Ls,S t⟩ y.Ls.length (B (t + 1)) := by
 have one : ∀ z : List zA × List Say,∃ z' : List zA × List Say,zx n ⟨z.1,y.Ls,z.2⟩ → Yg n ⟨z.1,y.Ls,z.2⟩ = some ⟨z'.1,y.Ls,z'.2⟩ ∧ z'.2 = [] ∧ RInv n ⟨z.1,y.Ls,z.2⟩ y.Ls.length z'.1 := fun z => by
  by_cases h : zx n ⟨z.1,y.Ls,z.2⟩
  ·obtain ⟨w,e1,e2,e3,e4⟩ := zH3 hn h
   obtain ⟨wb,wl,ws⟩ := w
   simp only at e2 e3 e4
   subst e2
   subst e3
   exact ⟨(wb,[]),fun _ => ⟨e1,rfl,e4⟩⟩
  ·exact ⟨z,fun h' => absurd h' h⟩
 obtain ⟨F,hF⟩ := Classical.skolem.1 one
 let Z : Nat → List zA × List Say := fun t => Nat.rec (y.Bs,y.Said) (fun _ z => F z) t
 have hZ : ∀ t,Z (t + 1) = F (Z t) := fun t => rfl
 have good : ∀ t,zx n ⟨(Z t).1,y.Ls,(Z t).2⟩ := fun t => by
  induction t with
  | zero => exact hy
  | succ t ih =>
   obtain ⟨_,e2,e3⟩ := hF (Z t) ih
   rw [hZ t,e2]
   exact e3.1
 refine ⟨fun t => (Z t).1,fun t => (Z t).2,rfl,rfl,fun t => ⟨good t,?_⟩⟩
 obtain ⟨e1,e2,e3⟩ := hF (Z t) (good t)
 simp only [hZ t]
 exact ⟨e1,e2,e3⟩
def zDx (l : Link) (i p j q : Int) : Prop := (l.A = i ∧ l.P = p ∧ l.B = j ∧ l.Q = q) ∨ (l.B = i ∧ l.Q = p ∧ l.A = j ∧ l.P = q)
theorem zK3 {b p : Int} {l : Link} (h : zf b p l = true) : ∃ j q,zDx l b p j q := by
 rcases qy.1 h with ⟨h1,h2⟩ | ⟨h1,h2⟩
 ·exact ⟨l.B,l.Q,.inl ⟨h1,h2,rfl,rfl⟩⟩
 ·exact ⟨l.A,l.P,.inr ⟨h1,h2,rfl,rfl⟩⟩
theorem zMF {b p j q : Int} {l : Link} (h : zDx l b p j q) : zf b p l = true := by
 rcases h with ⟨h1,h2,_⟩ | ⟨h1,h2,_⟩
 ·exact qy.2 (.inl ⟨h1,h2⟩)
 ·exact qy.2 (.inr ⟨h1,h2⟩)
theorem zFP {n : Nat} {x : Net} (hx : zx n x) {k : Nat} (hk : k < x.Ls.length) {i p j q : Int} (he : zDx x.Ls[k] i p j q) : ∃ i' p' j' q' : Nat,i = i' ∧ p = p' ∧ j = j' ∧ q = q' ∧ i' < x.Bs.length ∧ j' < x.Bs.length ∧ p' < 6 ∧ q' < 6 := by
 obtain ⟨a,p0,c,q0,ha,hc,ea,ep,ec,eq,_,_,_,hp6,hq6⟩ := hx.ends hk
 rcases he with ⟨rfl,rfl,rfl,rfl⟩ | ⟨rfl,rfl,rfl,rfl⟩
 ·exact ⟨a,p0,c,q0,ea,ep,ec,eq,ha,hc,hp6,hq6⟩
 ·exact ⟨c,q0,a,p0,ec,eq,ea,ep,hc,ha,hq6,hp6⟩
structure AgN (N : Nat) (ids : Nat → Int) (V : Nat → Int × Int × Int) (rp : Nat → Int) (Ed : Nat → Nat → Int → Int → Nat → Int → Prop) : Prop where
 n6 : N ≤ 6
 inj : ∀ i j,i < N → j < N → ids i = ids j → i = j
 rng : ∀ k i p w j q,Ed k i p w j q → i < N ∧ j < N ∧ i ≠ j ∧ 1 ≤ w ∧ w ≤ 1000 ∧ 0 ≤ p
 sym : ∀ k i p w j q,Ed k i p w j q → ∃ w',Ed k j q w' i p
 two : ∀ k i p w j q i' p' w' j' q',Ed k i p w j q → Ed k i' p' w' j' q' → (i' = i ∧ p' = p ∧ w' = w ∧ j' = j ∧ q' = q) ∨ (i' = j ∧ p' = q ∧ j' = i ∧ q' = p)
 one : ∀ k k' i p w j q w' j' q',Ed k i p w j q → Ed k' i p w' j' q' → k' = k
 hop : ∀ i,i < N → 0 ≤ (V i).2.2
 know : ∀ i,i < N → (rp i < 0 ∧ V i = (ids i,0,0) ∧ ∀ k p w j q,Ed k i p w j q → zJp (V j) w → ids i ≤ (V j).1) ∨
  ∃ k w j q,Ed k i (rp i) w j q ∧ (V j).1 < ids i ∧ V i = ((V j).1,(V j).2.1 + w,(V j).2.2 + 1) ∧ ∀ k' p' w' j' q',Ed k' i p' w' j' q' → zJp (V j') w' → (V j').1 < ids i → (V j).1 ≤ (V j').1
theorem AgN.farA {N ids V rp Ed} (h : AgN N ids V rp Ed) : ∀ (m : Nat) (i : Nat),i < N → (V i).2.2 = m → 0 ≤ (V i).2.1 ∧ (V i).2.1 ≤ 1000 * m ∧ m + 1 ≤ ((List.range N).filter (fun k => decide ((V k).2.2 ≤ m))).length
 | 0,i,hi,hm => by
  refine ⟨?_,?_,?_⟩
  ·rcases h.know i hi with ⟨_,e,_⟩ | ⟨k,w,j,q,e,_,e2,_⟩
   ·rw [e]; exact Int.le_refl _
   ·have := h.hop j (h.rng _ _ _ _ _ _ e).2.1
    rw [e2] at hm
    simp only at hm
    omega
  ·rcases h.know i hi with ⟨_,e,_⟩ | ⟨k,w,j,q,e,_,e2,_⟩
   ·rw [e]; exact Int.le_refl _
   ·have := h.hop j (h.rng _ _ _ _ _ _ e).2.1
    rw [e2] at hm
    simp only at hm
    omega
  ·exact List.length_pos_of_mem (List.mem_filter.2 ⟨List.mem_range.2 hi,by simp only [decide_eq_true_eq]; omega⟩)
 | m + 1,i,hi,hm => by
  rcases h.know i hi with ⟨_,e,_⟩ | ⟨k,w,j,q,e,_,e2,_⟩
  ·rw [e] at hm
   simp only at hm
   omega
  ·have r := h.rng _ _ _ _ _ _ e
   have hj : (V j).2.2 = m := by rw [e2] at hm; simp only at hm; omega
   obtain ⟨a,b,c⟩ := AgN.farA h m j r.2.1 hj
   refine ⟨by rw [e2]; simp only; omega,by rw [e2]; simp only; omega,?_⟩
   have := (filter_lt (fun k => decide ((V k).2.2 ≤ m)) (fun k => decide ((V k).2.2 ≤ ((m + 1 : Nat) : Int))) (fun a ha => by simp only [decide_eq_true_eq] at ha ⊢; omega) (List.range N)).2 ⟨i,List.mem_range.2 hi,by simp only [decide_eq_true_eq]; omega,by simp only [decide_eq_false_iff_not]; omega⟩
   omega
theorem AgN.nearA {N ids V rp Ed} (h : AgN N ids V rp Ed) {i : Nat} (hi : i < N) : 0 ≤ (V i).2.1 ∧ (V i).2.1 ≤ 5000 ∧ (V i).2.2 ≤ 5 := by
 obtain ⟨m,hm⟩ := Int.eq_ofNat_of_zero_le (h.hop i hi)
 obtain ⟨a,b,c⟩ := h.farA m i hi hm
 have := List.length_filter_le (fun k => decide ((V k).2.2 ≤ m)) (List.range N)
 have h6 := h.n6
 rw [List.length_range] at this
 omega
theorem AgN.useA {N ids V rp Ed} (h : AgN N ids V rp Ed) {k i p w j q} (e : Ed k i p w j q) : zJp (V j) w := by
 have r := h.rng _ _ _ _ _ _ e
 have := h.nearA r.2.1
 exact ⟨by omega,by omega⟩
theorem AgN.leA {N ids V rp Ed} (h : AgN N ids V rp Ed) {k i p w j q} (e : Ed k i p w j q) : (V i).1 ≤ (V j).1 := by
 have r := h.rng _ _ _ _ _ _ e
 rcases h.know i r.1 with ⟨_,e1,e2⟩ | ⟨k',w',j',q',e1,e2,e3,e4⟩
 ·have := e2 _ _ _ _ _ e (h.useA e)
  rw [e1]; exact this
 ·rw [e3]
  by_cases hl : (V j).1 < ids i
  ·exact e4 _ _ _ _ _ e (h.useA e) hl
  ·simp only; omega
theorem AgN.rootA {N ids V rp Ed} (h : AgN N ids V rp Ed) {k i p w j q} (e : Ed k i p w j q) : (V i).1 = (V j).1 := by
 obtain ⟨w',e'⟩ := h.sym _ _ _ _ _ _ e
 have := h.leA e
 have := h.leA e'
 omega
theorem AgN.rootLeA {N ids V rp Ed} (h : AgN N ids V rp Ed) {i} (hi : i < N) : (V i).1 ≤ ids i := by
 rcases h.know i hi with ⟨_,e1,_⟩ | ⟨_,_,_,_,_,e2,e3,_⟩
 ·rw [e1]; exact Int.le_refl _
 ·rw [e3]; simp only; omega
theorem AgN.childA {N ids V rp Ed} (h : AgN N ids V rp Ed) {i} (hi : i < N) : (rp i < 0 ∧ (V i).1 = ids i) ∨ ((V i).1 < ids i ∧ ∃ k w j q,Ed k i (rp i) w j q) := by
 rcases h.know i hi with ⟨e0,e1,_⟩ | ⟨k,w,j,q,e,e2,e3,_⟩
 ·exact .inl ⟨e0,by rw [e1]⟩
 ·exact .inr ⟨by rw [e3]; exact e2,k,w,j,q,e⟩
theorem AgN.upA {N ids V rp Ed} (h : AgN N ids V rp Ed) {k i w j q} (e : Ed k i (rp i) w j q) : V i = ((V j).1,(V j).2.1 + w,(V j).2.2 + 1) := by
 have r := h.rng _ _ _ _ _ _ e
 rcases h.know i r.1 with ⟨e0,_⟩ | ⟨k',w',j',q',e',e2,e3,_⟩
 ·omega
 ·have := h.one _ _ _ _ _ _ _ _ _ _ e e'
  subst this
  rcases h.two _ _ _ _ _ _ _ _ _ _ _ e e' with ⟨_,_,rfl,rfl,_⟩ | ⟨a,_⟩
  ·exact e3
  ·exact absurd a r.2.2.1
def zLt (ids : Nat → Int) (V : Nat → Int × Int × Int) (rp : Nat → Int) (i : Nat) (p : Int) (j : Nat) (q : Int) : Prop :=
 rp i = p ∨ ¬ le4 ((V j).1,(V j).2.1,ids j,q) ((V i).1,(V i).2.1,ids i,p)
theorem AgN.liveA {N ids V rp Ed} (h : AgN N ids V rp Ed) {k i p w j q} (e : Ed k i p w j q) : (zLt ids V rp i p j q ∧ zLt ids V rp j q i p) ↔ (rp i = p ∨ rp j = q) := by
 have r := h.rng _ _ _ _ _ _ e
 constructor
 ·rintro ⟨a | a,b | b⟩
  ·exact .inl a
  ·exact .inl a
  ·exact .inr b
  ·unfold le4 at a b
   simp only at a b
   omega
 ·rintro (rfl | rfl)
  ·refine ⟨.inl rfl,.inr ?_⟩
   rw [h.upA e]
   unfold le4
   simp only
   omega
  ·obtain ⟨w',e'⟩ := h.sym _ _ _ _ _ _ e
   have r' := h.rng _ _ _ _ _ _ e'
   refine ⟨.inr ?_,.inl rfl⟩
   rw [h.upA e']
   unfold le4
   simp only
   omega
theorem AgN.notBoth {N ids V rp Ed} (h : AgN N ids V rp Ed) {k i p w j q} (e : Ed k i p w j q) : ¬ (rp i = p ∧ rp j = q) := by
 rintro ⟨rfl,rfl⟩
 obtain ⟨w',e'⟩ := h.sym _ _ _ _ _ _ e
 have a := h.upA e
 have b := h.upA e'
 have a := congrArg (·.2.2) a
 have b := congrArg (·.2.2) b
 simp only at a b
 omega
theorem AgN.wayA {N ids V rp Ed} (h : AgN N ids V rp Ed) : ∀ (m : Nat) (i : Nat),i < N → (V i).2.2 = m → ∃ r,r < N ∧ ids r = (V i).1 ∧ ∀ S : Nat → Prop,(∀ k i p w j q,Ed k i p w j q → rp i = p → (S i ↔ S j)) → (S i ↔ S r)
 | 0,i,hi,hm => by
  rcases h.know i hi with ⟨_,e,_⟩ | ⟨k,w,j,q,e,_,e2,_⟩
  ·exact ⟨i,hi,by rw [e],fun _ _ => Iff.rfl⟩
  ·have := h.hop j (h.rng _ _ _ _ _ _ e).2.1
   rw [e2] at hm
   simp only at hm
   omega
 | m + 1,i,hi,hm => by
  rcases h.know i hi with ⟨_,e,_⟩ | ⟨k,w,j,q,e,_,e2,_⟩
  ·rw [e] at hm
   simp only at hm
   omega
  ·have r := h.rng _ _ _ _ _ _ e
   obtain ⟨z,z1,z2,z3⟩ := AgN.wayA h m j r.2.1 (by rw [e2] at hm; simp only at hm; omega)
   exact ⟨z,z1,by rw [z2,e2],fun S hS => (hS _ _ _ _ _ _ e rfl).trans (z3 S hS)⟩
inductive JW (rp : Nat → Int) (Ed : Nat → Nat → Int → Int → Nat → Int → Prop) (c : Nat) : Nat → Prop
 | self : JW rp Ed c c
 | step (k i : Nat) (w : Int) (j : Nat) (q : Int) : Ed k i (rp i) w j q → JW rp Ed c j → JW rp Ed c i
theorem AgN.behindT {N ids V rp Ed} (h : AgN N ids V rp Ed) {c i : Nat} (b : JW rp Ed c i) : (V c).2.2 ≤ (V i).2.2 := by
 induction b with
 | self => exact Int.le_refl _
 | step k i w j q e _ ih =>
  have := congrArg (·.2.2) (h.upA e)
  simp only at this
  omega
theorem AgN.apart {N ids V rp Ed} (h : AgN N ids V rp Ed) {k c w d q} (e : Ed k c (rp c) w d q) : JW rp Ed c c ∧ ¬ JW rp Ed c d ∧ ∀ k' i p w' j q',k' ≠ k → Ed k' i p w' j q' → rp i = p → (JW rp Ed c i ↔ JW rp Ed c j) := by
 refine ⟨.self,fun b => ?_,fun k' i p w' j q' hk e' hp => ⟨fun b => ?_,fun b => ?_⟩⟩
 ·have := h.behindT b
  have := congrArg (·.2.2) (h.upA e)
  simp only at this
  omega
 ·subst hp
  cases b with
  | self => exact absurd (h.one _ _ _ _ _ _ _ _ _ _ e e') hk
  | step k2 _ w2 j2 q2 e2 b =>
   have := h.one _ _ _ _ _ _ _ _ _ _ e' e2
   subst this
   rcases h.two _ _ _ _ _ _ _ _ _ _ _ e' e2 with ⟨_,_,_,rfl,_⟩ | ⟨a,_⟩
   ·exact b
   ·exact absurd a (h.rng _ _ _ _ _ _ e').2.2.1
 ·subst hp
  exact .step _ _ _ _ _ e' b
theorem zKl (n : Nat) (a b : Vec) : ∃ t,ZX n a b = some t ∧ (t = true ↔ ¬ le4 (zCr b) (zCr a)) := by
 unfold ZX le4 zCr
 simp only
 by_cases h1 : a.Root = b.Root
 ·rw [show (a.Root != b.Root) = false from by simp [h1],cond_false]
  by_cases h2 : a.Co = b.Co
  ·rw [show (a.Co != b.Co) = false from by simp [h2],cond_false]
   by_cases h3 : a.Bridge = b.Bridge
   ·rw [show (a.Bridge != b.Bridge) = false from by simp [h3],cond_false]
    exact ⟨_,rfl,by rw [decide_eq_true_eq]; omega⟩
   ·rw [show (a.Bridge != b.Bridge) = true from by simpa using h3,cond_true]
    exact ⟨_,rfl,by rw [decide_eq_true_eq]; omega⟩
  ·rw [show (a.Co != b.Co) = true from by simpa using h2,cond_true]
   exact ⟨_,rfl,by rw [decide_eq_true_eq]; omega⟩
 ·rw [show (a.Root != b.Root) = true from by simpa using h1,cond_true]
  exact ⟨_,rfl,by rw [decide_eq_true_eq]; omega⟩
theorem zEb {n : Nat} {x : Net} (hx : zx n x) {i p : Nat} (hi : i < x.Bs.length) (hp : p < x.Bs[i].Ps.length) (v : Vec) : ∃ b,JN n x i p v = some b ∧ (b = true → x.Bs[i].Ps[p].Has = true ∧ x.Bs[i].Ps[p].Hd = v) := by
 have hsz := hx.sz
 have h6 := hx.2.2.1.2.1.2
 unfold JN
 rw [zBF n x hx.1 (by omega) (zC hi) (zC hp)]
 simp only [Option.bind_some,cond_true]
 cases hh : x.Bs[i].Ps[p].Has with
 | false => exact ⟨false,rfl,fun h => by cases h⟩
 | true =>
  refine ⟨_,rfl,fun h => ⟨rfl,?_⟩⟩
  simp only [Bool.and_eq_true,beq_iff_eq] at h
  obtain ⟨a,b,c,d,e,_⟩ := h
  generalize x.Bs[i].Ps[p].Hd = u at *
  cases u
  cases v
  simp_all
theorem zLR {n : Nat} {x : Net} (hn : 1048700 < n) (hx : zx n x) (ha : Qt n x = some true) : ∀ k (hk : k < x.Ls.length),zU n x k = some true → ∀ (i p j q : Nat),zDx x.Ls[k] i p j q → ∃ hi : i < x.Bs.length,∃ hp : p < x.Bs[i].Ps.length,x.Bs[i].Ps[p].Up = true ∧ x.Bs[i].Ps[p].Has = true ∧ x.Bs[i].Ps[p].Hd = zAm n x j q := by
 have h9 := hx.2.2.1.2.2.1
 have loop : ∀ (m k : Nat),qn n m x k = some (.inl ()) → ∀ k' (hk : k' < x.Ls.length),k ≤ k' → zU n x k' = some true → ∀ (i p j q : Nat),zDx x.Ls[k'] i p j q → ∃ hi : i < x.Bs.length,∃ hp : p < x.Bs[i].Ps.length,x.Bs[i].Ps[p].Up = true ∧ x.Bs[i].Ps[p].Has = true ∧ x.Bs[i].Ps[p].Hd = zAm n x j q := fun m => by
  induction m with
  | zero => intro k h; cases h
  | succ m ih =>
   intro k h k' hk' hle hu i p j q he
   have hk : k < x.Ls.length := by omega
   obtain ⟨p0,q0,pa,pb,pu,_,u2,_⟩ := hx.linkV hk
   obtain ⟨a,p',c,q',ea,ec,eA,eP,eB,eQ,hac,hp',hq',hp6,hq6⟩ := hx.ends hk
   rw [qn,zh hk,cond_true,zC hk,Option.bind_some,u2,Option.bind_some,zK (by omega : k ≤ 1099511627776)] at h
   cases hup : p0.Up with
   | false =>
    rw [hup,cond_false] at h
    by_cases hkk : k' = k
    ·subst hkk
     rw [u2,hup] at hu
     cases hu
    ·exact ih (k + 1) h k' hk' (by omega) hu i p j q he
   | true =>
    rw [hup,cond_true,eA,eP,eB,eQ,(J5 hn hx ec q' hq6).1,Option.bind_some] at h
    obtain ⟨b1,g1,g2⟩ := zEb hx ea hp' (zAm n x c q')
    rw [g1,Option.bind_some] at h
    cases b1 with
    | false => cases h
    | true =>
     rw [Bool.not_true,cond_false,(J5 hn hx ea p' hp6).1,Option.bind_some] at h
     obtain ⟨b2,g3,g4⟩ := zEb hx ec hq' (zAm n x a p')
     rw [g3,Option.bind_some] at h
     cases b2 with
     | false => cases h
     | true =>
      rw [Bool.not_true,cond_false] at h
      by_cases hkk : k' = k
      ·subst hkk
       unfold zj at pa pb
       rw [eA,eP,zC ea,Option.bind_some,zC hp'] at pa
       rw [eB,eQ,zC ec,Option.bind_some,zC hq'] at pb
       rcases he with ⟨r1,r2,r3,r4⟩ | ⟨r1,r2,r3,r4⟩
       ·have w1 : a = i := by omega
        have w2 : p' = p := by omega
        have w3 : c = j := by omega
        have w4 : q' = q := by omega
        subst w1 w2 w3 w4
        exact ⟨ea,hp',by rw [Option.some.inj pa]; exact hup,g2 rfl⟩
       ·have w1 : c = i := by omega
        have w2 : q' = p := by omega
        have w3 : a = j := by omega
        have w4 : p' = q := by omega
        subst w1 w2 w3 w4
        exact ⟨ec,hq',by rw [Option.some.inj pb,← pu]; exact hup,g4 rfl⟩
      ·exact ih (k + 1) h k' hk' (by omega) hu i p j q he
 intro k hk hu i p j q he
 unfold Qt at ha
 cases hL : qn n n x 0 with
 | none => rw [hL] at ha; cases ha
 | some o =>
  cases o with
  | inl u => exact loop n 0 (by cases u; exact hL) k hk (by omega) hu i p j q he
  | inr b =>
   rw [hL] at ha
   have hb : b = true := Option.some.inj ha
   have leave : ∀ (m k : Nat) (b : Bool),qn n m x k = some (.inr b) → b = false := fun m => by
    induction m with
    | zero => intro k b h; cases h
    | succ m ih =>
     intro k b h
     rw [qn] at h
     by_cases hk : k < x.Ls.length
     ·obtain ⟨p0,q0,pa,pb,pu,_,u2,_⟩ := hx.linkV hk
      obtain ⟨a,p',c,q',ea,ec,eA,eP,eB,eQ,hac,hp',hq',hp6,hq6⟩ := hx.ends hk
      rw [zh hk,cond_true,zC hk,Option.bind_some,u2,Option.bind_some,zK (by omega : k ≤ 1099511627776)] at h
      cases hup : p0.Up with
      | false =>
       rw [hup,cond_false] at h
       exact ih (k + 1) b h
      | true =>
       rw [hup,cond_true,eA,eP,eB,eQ,(J5 hn hx ec q' hq6).1,Option.bind_some] at h
       obtain ⟨b1,g1,g2⟩ := zEb hx ea hp' (zAm n x c q')
       rw [g1,Option.bind_some] at h
       cases b1 with
       | false => cases h; rfl
       | true =>
        rw [Bool.not_true,cond_false,(J5 hn hx ea p' hp6).1,Option.bind_some] at h
        obtain ⟨b2,g3,g4⟩ := zEb hx ec hq' (zAm n x a p')
        rw [g3,Option.bind_some] at h
        cases b2 with
        | false => cases h; rfl
        | true =>
         rw [Bool.not_true,cond_false] at h
         exact ih (k + 1) b h
     ·rw [decide_eq_false (by omega)] at h
      cases h
   have := leave n 0 b hL
   rw [hb] at this
   cases this
def EdN (n : Nat) (x : Net) (k i : Nat) (p w : Int) (j : Nat) (q : Int) : Prop := ∃ hk : k < x.Ls.length,zU n x k = some true ∧ zDx x.Ls[k] i p j q ∧ i < x.Bs.length ∧ j < x.Bs.length ∧ (zj x i p).map (·.Co) = some w
theorem zLS {n : Nat} {x : Net} (hn : 1048700 < n) (hx : zx n x) (ha : Qt n x = some true) : ∃ (ids : Nat → Int) (V : Nat → Int × Int × Int) (rp : Nat → Int),AgN x.Bs.length ids V rp (EdN n x) ∧ (∀ i (hi : i < x.Bs.length),ids i = x.Bs[i].Id) ∧ ∀ k i p w j q,EdN n x k i p w j q → ∃ b,ZW n x i p = some b ∧ (b = true ↔ zLt ids V rp i p j q) := by
 have inv := zLR hn hx ha
 have h6 := hx.2.2.1.2.1.2
 have best : ∀ i,∃ z : Int × Int × Int × Int,∀ hi : i < x.Bs.length,ZI n x.Bs[i].Id x.Bs[i].Ps = some ((⟨z.1,z.2.1,z.2.2.1,x.Bs[i].Id,0⟩ : Vec),z.2.2.2) ∧
   ((z.2.2.2 < 0 ∧ (z.1,z.2.1,z.2.2.1) = (x.Bs[i].Id,(0 : Int),(0 : Int)) ∧ ∀ j (hj : j < x.Bs[i].Ps.length),¬ zBT x.Bs[i].Id x.Bs[i].Ps[j]) ∨ ∃ j,∃ hj : j < x.Bs[i].Ps.length,zBT x.Bs[i].Id x.Bs[i].Ps[j] ∧ z.2.2.2 = (j : Int) ∧ (z.1,z.2.1,z.2.2.1) = (x.Bs[i].Ps[j].Hd.Root,x.Bs[i].Ps[j].Hd.Co + x.Bs[i].Ps[j].Co,x.Bs[i].Ps[j].Hd.Hops + 1) ∧ ∀ j' (hj' : j' < x.Bs[i].Ps.length),zBT x.Bs[i].Id x.Bs[i].Ps[j'] → le4 (zFX x.Bs[i].Ps[j]) (zFX x.Bs[i].Ps[j'])) := fun i => by
  by_cases hi : i < x.Bs.length
  ·have hs : x.Bs[i].Name.size + x.Bs[i].Ps.length + x.Bs[i].F.length + x.Bs[i].V.sz = x.Bs[i].sz := rfl
   have h40 := (hx.br hi).2.2
   obtain ⟨p1,p2,p3,p4,p5,p6,p7,p8,p9,p10,p11,p12,p13⟩ := qK n _ (by omega) (hx.br hi).1
   obtain ⟨r,c,s,p,e,h⟩ := zJk n x.Bs[i].Id x.Bs[i].Ps (by omega) (by omega) p13
   exact ⟨(r,c,s,p),fun _ => ⟨e,h⟩⟩
  ·exact ⟨(0,0,0,0),fun h => absurd h hi⟩
 obtain ⟨Z,hZ⟩ := Classical.skolem.1 best
 obtain ⟨ids,hids⟩ : ∃ ids : Nat → Int,∀ i (hi : i < x.Bs.length),ids i = x.Bs[i].Id := ⟨fun i => if hi : i < x.Bs.length then x.Bs[i].Id else 1,fun i hi => dif_pos hi⟩
 have parts : ∀ i (hi : i < x.Bs.length),x.Bs[i].Ps.length ≤ 6 ∧ ∀ p (hp : p < x.Bs[i].Ps.length),qE n x.Bs[i].Ps[p] = some true := fun i hi => by
  have hs : x.Bs[i].Name.size + x.Bs[i].Ps.length + x.Bs[i].F.length + x.Bs[i].V.sz = x.Bs[i].sz := rfl
  have h40 := (hx.br hi).2.2
  obtain ⟨p1,p2,p3,p4,p5,p6,p7,p8,p9,p10,p11,p12,p13⟩ := qK n _ (by omega) (hx.br hi).1
  exact ⟨p2,p13⟩
 have say : ∀ i (hi : i < x.Bs.length) (q : Nat),q < 6 → zAm n x i q = ⟨(Z i).1,(Z i).2.1,(Z i).2.2.1,ids i,q⟩ := fun i hi q hq => by
  obtain ⟨_,e2,_⟩ := J5 hn hx hi q hq
  unfold qZ at e2
  rw [(hZ i hi).1] at e2
  rw [hids i hi]
  exact (Option.some.inj e2).symm
 have ep : ∀ k i p w j q,EdN n x k i p w j q → ∃ hi : i < x.Bs.length,∃ pp : Nat,p = pp ∧ ∃ hp : pp < x.Bs[i].Ps.length,x.Bs[i].Ps[pp] = ⟨true,w,true,⟨(Z j).1,(Z j).2.1,(Z j).2.2.1,ids j,q⟩⟩ := fun k i p w j q ⟨hk,hu,he,hi,hj,hc⟩ => by
  obtain ⟨i',p',j',q',e1,e2,e3,e4,b1,b2,b3,b4⟩ := zFP hx hk he
  have w1 : i = i' := by omega
  have w3 : j = j' := by omega
  subst w1 w3 e2 e4
  obtain ⟨_,hp,u1,u2,u3⟩ := inv k hk hu i p' j q' he
  refine ⟨hi,p',rfl,hp,?_⟩
  have hw : x.Bs[i].Ps[p'].Co = w := by
   unfold zj at hc
   rw [zC hi,Option.bind_some,zC hp] at hc
   exact Option.some.inj hc
  rw [say j hj q' b4] at u3
  rw [← hw,← u3]
  generalize x.Bs[i].Ps[p'] = pt at *
  cases pt
  simp_all
 have pe : ∀ i (hi : i < x.Bs.length) p (hp : p < x.Bs[i].Ps.length),x.Bs[i].Ps[p].Up = true → x.Bs[i].Ps[p].Has = true → ∃ k w j q,EdN n x k i (p : Nat) w j q := fun i hi p hp hup hhas => by
  have hused := (hx.2.2.1.1 i hi hi).2.2 p hp hhas
  obtain ⟨l,hl,hb⟩ := List.any_eq_true.1 hused
  obtain ⟨k,hk,rfl⟩ := List.getElem_of_mem hl
  obtain ⟨j,q,he⟩ := zK3 hb
  obtain ⟨i',p',j',q',e1,e2,e3,e4,b1,b2,b3,b4⟩ := zFP hx hk he
  have hport : zj x i p = some x.Bs[i].Ps[p] := by
   unfold zj
   rw [zC hi,Option.bind_some,zC hp]
  obtain ⟨p1,q1,pa,qa,pu,_,u,_⟩ := hx.linkV hk
  have hu : zU n x k = some true := by
   rw [u]
   rcases he with ⟨r1,r2,_⟩ | ⟨r1,r2,_⟩
   ·rw [r1,r2,hport] at pa
    rw [← Option.some.inj pa,hup]
   ·rw [r1,r2,hport] at qa
    rw [pu,← Option.some.inj qa,hup]
  subst e3
  exact ⟨k,x.Bs[i].Ps[p].Co,j',q,hk,hu,he,hi,b2,by rw [hport]; rfl⟩
 refine ⟨ids,fun i => ((Z i).1,(Z i).2.1,(Z i).2.2.1),fun i => (Z i).2.2.2,{ n6 := h6,inj := ?_,rng := ?_,sym := ?_,two := ?_,one := ?_,hop := ?_,know := ?_ },hids,?_⟩
 ·intro i j hi hj hij
  rw [hids i hi,hids j hj] at hij
  rcases Nat.lt_trichotomy i j with hlt | heq | hgt
  ·exact absurd hij ((hx.2.2.1.1 j hj hj).2.1 i hlt)
  ·exact heq
  ·exact absurd hij.symm ((hx.2.2.1.1 i hi hi).2.1 j hgt)
 ·intro k i p w j q h
  obtain ⟨hi,pp,e,hp,ept⟩ := ep k i p w j q h
  obtain ⟨hk,hu,he,_,hj,hc⟩ := h
  have hw := (YW n _ ((parts i hi).2 pp hp)).1
  rw [ept] at hw
  obtain ⟨a,p',c,q',ea,ec,eA,eP,eB,eQ,hac,_⟩ := hx.ends hk
  refine ⟨hi,hj,?_,hw.1,hw.2,by omega⟩
  rcases he with ⟨r1,_,r3,_⟩ | ⟨r1,_,r3,_⟩ <;> omega
 ·intro k i p w j q ⟨hk,hu,he,hi,hj,hc⟩
  obtain ⟨i',p',j',q',e1,e2,e3,e4,b1,b2,b3,b4⟩ := zFP hx hk he
  have w3 : j = j' := by omega
  subst w3
  have he' : zDx x.Ls[k] j q i p := by
   rcases he with ⟨r1,r2,r3,r4⟩ | ⟨r1,r2,r3,r4⟩
   ·exact .inr ⟨r3,r4,r1,r2⟩
   ·exact .inl ⟨r3,r4,r1,r2⟩
  have he2 := he'
  rw [e4,e2,show (i : Int) = (i' : Nat) from e1] at he2
  obtain ⟨_,hp,_⟩ := inv k hk hu j q' i' p' he2
  refine ⟨x.Bs[j].Ps[q'].Co,hk,hu,he',hj,hi,?_⟩
  unfold zj
  rw [zC hj,Option.bind_some,e4,zC hp]
  rfl
 ·intro k i p w j q i' p' w' j' q' ⟨hk,hu,he,hi,hj,hc⟩ ⟨_,_,he',hi',hj',hc'⟩
  rcases he with ⟨r1,r2,r3,r4⟩ | ⟨r1,r2,r3,r4⟩ <;> rcases he' with ⟨s1,s2,s3,s4⟩ | ⟨s1,s2,s3,s4⟩
  ·have hii : i' = i := by omega
   have hpp : p' = p := by omega
   subst hii hpp
   rw [hc] at hc'
   exact .inl ⟨rfl,rfl,(Option.some.inj hc').symm,by omega,by omega⟩
  ·exact .inr ⟨by omega,by omega,by omega,by omega⟩
  ·exact .inr ⟨by omega,by omega,by omega,by omega⟩
  ·have hii : i' = i := by omega
   have hpp : p' = p := by omega
   subst hii hpp
   rw [hc] at hc'
   exact .inl ⟨rfl,rfl,(Option.some.inj hc').symm,by omega,by omega⟩
 ·intro k k' i p w j q w' j' q' ⟨hk,_,he,_⟩ ⟨hk',_,he',_⟩
  by_cases hkk : k' = k
  ·exact hkk
  ·have o := hx.other hk' hk hkk
   have u := zMF he
   rcases he' with ⟨s1,s2,_⟩ | ⟨s1,s2,_⟩
   ·rw [s1,s2] at o; rw [o.1] at u; cases u
   ·rw [s1,s2] at o; rw [o.2] at u; cases u
 ·intro i hi
  have := (zEx n _ (J5 hn hx (i := i) hi 0 (by omega)).2.2).2.2.1.1
  rw [say i hi 0 (by omega)] at this
  exact this
 ·intro i hi
  obtain ⟨_,hb⟩ := hZ i hi
  rcases hb with ⟨b1,b2,b3⟩ | ⟨j0,hj0,c1,c2,c3,c4⟩
  ·refine .inl ⟨b1,by rw [hids i hi]; exact b2,fun k p w j q he hu => ?_⟩
   obtain ⟨_,pp,_,hp,ept⟩ := ep k i p w j q he
   by_cases hlt : (Z j).1 < ids i
   ·exact absurd (show zBT x.Bs[i].Id x.Bs[i].Ps[pp] by rw [ept,← hids i hi]; exact ⟨rfl,rfl,hu,hlt⟩) (b3 pp hp)
   ·simp only; omega
  ·obtain ⟨k,w,j,q,he⟩ := pe i hi j0 hj0 c1.1 c1.2.1
   obtain ⟨_,pp,e1,hp,ept⟩ := ep k i _ w j q he
   have : j0 = pp := by omega
   subst this
   rw [ept] at c1 c3 c4
   refine .inr ⟨k,w,j,q,?_,?_,c3,fun k' p' w' j' q' he' hu' hl' => ?_⟩
   ·rw [c2]; exact he
   ·have := c1.2.2.2; rw [← hids i hi] at this; exact this
   ·obtain ⟨_,pp',_,hp',ept'⟩ := ep k' i p' w' j' q' he'
    have := c4 pp' hp' (by rw [ept',← hids i hi]; exact ⟨rfl,rfl,hu',hl'⟩)
    rw [ept'] at this
    unfold le4 zFX at this
    simp only at this ⊢
    omega
 ·intro k i p w j q h
  obtain ⟨hi,pp,rfl,hp,ept⟩ := ep k i p w j q h
  have hl := (parts i hi).1
  obtain ⟨hk,hu,he,_,hj,hc⟩ := h
  obtain ⟨i',p',j',q',e1,e2,e3,e4,d1,d2,d3,d4⟩ := zFP hx hk he
  obtain ⟨b,b1,b2,b3⟩ := zHU n x.Bs[i].Id x.Bs[i].Ps hl (by omega)
  obtain ⟨r,r1,r2⟩ := b3 pp hp
  have hsend : ZW n x i (pp : Int) = some (b.testBit pp) := by
   unfold ZW
   rw [zC hi,Option.bind_some,Option.bind_some,b1,Option.bind_some,zDZ n b pp (by omega),zNK b b2 pp (by omega)]
   rfl
  refine ⟨_,hsend,?_⟩
  rw [r2]
  unfold ZN at r1
  have hsay := (J5 hn hx hi pp (by omega)).2.1
  obtain ⟨t,t1,t2⟩ := zKl n (zAm n x i pp) x.Bs[i].Ps[pp].Hd
  have hup : x.Bs[i].Ps[pp].Up = true := by rw [ept]
  have hhas : x.Bs[i].Ps[pp].Has = true := by rw [ept]
  rw [zL,Option.bind_some,wrap64 (by omega) (by omega),decide_eq_true (show (0 : Int) ≤ (pp : Int) by omega),decide_eq_true (show (pp : Int) ≤ (x.Bs[i].Ps.length : Int) - 1 by omega)] at r1
  simp only [Bool.and_self,Bool.not_true,cond_false,zC hp,Option.bind_some,hup,hhas,(hZ i hi).1,hsay,t1] at r1
  have hkey : t = true ↔ ¬ le4 ((Z j).1,(Z j).2.1,ids j,q) ((Z i).1,(Z i).2.1,ids i,(pp : Int)) := by
   rw [t2,say i hi pp (by omega),ept]
   exact Iff.rfl
  unfold zLt
  by_cases hr : (Z i).2.2.2 = (pp : Int)
  ·rw [show ((Z i).2.2.2 == (pp : Int)) = true by simpa using hr,cond_true] at r1
   have : r = 1 := (Option.some.inj r1).symm
   exact ⟨fun _ => .inl hr,fun _ => by omega⟩
  ·rw [show ((Z i).2.2.2 == (pp : Int)) = false by simpa using hr,cond_false] at r1
   cases t with
   | true =>
    have : r = 2 := (Option.some.inj r1).symm
    exact ⟨fun _ => .inr (hkey.1 rfl),fun _ => by omega⟩
   | false =>
    have : r = 3 := (Option.some.inj r1).symm
    refine ⟨fun h => by omega,fun h => ?_⟩
    rcases h with h | h
    ·exact absurd h hr
    ·have := hkey.2 h; cases this
def zEQ (x : Net) (l : List Int) (i j : Nat) : Prop := ∃ z ∈ l,∃ lk,idx x.Ls z = some lk ∧ lk.A = i ∧ lk.B = j ∧ i < x.Bs.length ∧ j < x.Bs.length
theorem zLW {x : Net} {l : List Int} {S : Nat → Prop} : zAW x l 0 (fun z => S z.toNat) ↔ ∀ i j,zEQ x l i j → (S i ↔ S j) := by
 constructor
 ·rintro h i j ⟨z,hz,lk,hlk,hA,hB,hi,hj⟩
  obtain ⟨k,hk,rfl⟩ := List.getElem_of_mem hz
  have := h k _ lk (Nat.zero_le _) (List.getElem?_eq_getElem hk) hlk (by omega) (by omega) (by omega) (by omega)
  rw [hA,hB] at this
  simpa using this
 ·intro h k z lk _ hz hlk a0 a1 b0 b1
  obtain ⟨i,hi⟩ := Int.eq_ofNat_of_zero_le a0
  obtain ⟨j,hj⟩ := Int.eq_ofNat_of_zero_le b0
  have := h i j ⟨z,List.mem_of_getElem? hz,lk,hlk,hi,hj,by omega,by omega⟩
  rw [hi,hj]
  simpa using this
theorem zBo (n : Nat) (x : Net) (b : Nat) (l : List Int) (hb : b < x.Bs.length) (hN : x.Bs.length ≤ 1048576) (hK : x.Ls.length ≤ 1048600) (hl : l.length ≤ 1048590) (hn : 1048700 < n) : ∃ f : Nat → Bool,ZK n x b l = some (((List.range' 0 x.Bs.length).filter f).map fun j : Nat => (j : Int)) ∧ f b = true ∧ (∀ i j,zEQ x l i j → (f i = true ↔ f j = true)) ∧ ∀ S : Nat → Prop,(∀ i j,zEQ x l i j → (S i ↔ S j)) → S b → ∀ j,f j = true → S j := by
 have hb' : 0 ≤ (b : Int) ∧ (b : Int) < x.Bs.length := by omega
 have hrep : (List.replicate x.Bs.length false).length = x.Bs.length := List.length_replicate ..
 have hg : (decide (0 ≤ (x.Bs.length : Int)) && decide ((x.Bs.length : Int) ≤ 268435456)) = true := by
  rw [decide_eq_true (by omega),decide_eq_true (by omega)]; rfl
 have hset : ∀ z,ZA ((List.replicate x.Bs.length false).set ((b : Int)).toNat true) z ↔ z = (b : Int) := fun z => by
  rw [zE9 hb'.1 (by rw [hrep]; exact hb'.2)]
  refine or_iff_left ?_
  rintro ⟨h0,h1⟩
  rw [List.getElem?_replicate] at h1
  split at h1 <;> simp at h1
 obtain ⟨met,f1,f2,f3,f4,f5⟩ := zDY n x l hl (by omega) (by omega) (by omega) n true ((List.replicate x.Bs.length false).set ((b : Int)).toNat true) (by simp only [if_true]; omega) (by rw [List.length_set,hrep]) (fun h => by cases h)
 have hm : ∀ j : Nat,ZA met (j : Int) ↔ (met[j]? == some true) = true := fun j => by
  unfold ZA
  simp
 have hm2 : (fun z : Int => ZA met z) = fun z : Int => 0 ≤ z ∧ (met[z.toNat]? == some true) = true := by
  funext z
  unfold ZA
  simp
 refine ⟨fun j => met[j]? == some true,?_,?_,?_,?_⟩
 ·unfold ZK
  rw [qW,QR n b _ (show x.Bs.length ≤ 1048600 by omega),Option.bind_some,decide_eq_true hb']
  simp only [Bool.not_true,cond_false,Int.toNat_natCast]
  rw [hg,zC (by rw [hrep]; exact hb)]
  simp only [Int.toNat_natCast] at f1
  simp only [cond_true,Option.bind_some,f1,JZ]
  rw [show Z7 n n met 0 [] = _ from zAZ n met (by omega) n 0 [] (by omega) (by omega) (by simp)]
  simp only [Option.bind_some,Ja,List.nil_append,Nat.sub_zero,f2]
 ·exact (hm b).1 (f3 _ ((hset _).2 rfl))
 ·intro i j h
  obtain ⟨z,hz,lk,hlk,hA,hB,hi,hj⟩ := h
  obtain ⟨k,hk,rfl⟩ := List.getElem_of_mem hz
  have := f5 k _ lk (Nat.zero_le _) (List.getElem?_eq_getElem hk) hlk (by omega) (by omega) (by omega) (by omega)
  rw [hA,hB,hm,hm] at this
  exact this
 ·intro S hS hSb j hj
  have := f4 (fun z => S z.toNat) (zLW.2 hS) (fun z hz => by
   rw [(hset z).1 hz]
   simpa using hSb) (j : Int) ((hm j).2 hj)
  simpa using this
theorem zJ4 {n : Nat} {x : Net} (hn : 1048700 < n) (hx : zx n x) (P : Nat → Bool) (hP : ∀ k (hk : k < x.Ls.length),(zU n x k = some false → P k = false) ∧ (zU n x k = some true → ∃ s1 s2,ZW n x x.Ls[k].A x.Ls[k].P = some s1 ∧ ZW n x x.Ls[k].B x.Ls[k].Q = some s2 ∧ P k = (s1 && s2))) : ∀ (m k : Nat) (acc : List Int),k ≤ x.Ls.length → x.Ls.length < m + k → acc.length ≤ k → ZL n m x k acc = some (.inl (acc ++ ((List.range' k (x.Ls.length - k)).filter P).map fun j : Nat => (j : Int)))
 | 0,k,acc,h1,h2,h3 => by omega
 | m + 1,k,acc,h1,h2,h3 => by
  have h9 := hx.2.2.1.2.2.1
  rw [ZL]
  by_cases hk : k < x.Ls.length
  ·obtain ⟨p0,q0,_,_,_,_,u2,_⟩ := hx.linkV hk
   have ih := fun acc h3 => zJ4 hn hx P hP m (k + 1) acc (by omega) (by omega) h3
   have hr : List.range' k (x.Ls.length - k) = k :: List.range' (k + 1) (x.Ls.length - (k + 1)) := by
    rw [show x.Ls.length - k = (x.Ls.length - (k + 1)) + 1 by omega,List.range'_succ]
   have j3 : ∀ t : Bool,P k = t → YJ n (fun v => ZL n m x v.1 v.2) k acc t = some (.inl (acc ++ ((List.range' k (x.Ls.length - k)).filter P).map fun j : Nat => (j : Int))) := fun t ht => by
    unfold YJ
    rw [zK (by omega : k ≤ 1099511627776),hr]
    cases t with
    | true =>
     rw [cond_true,decide_eq_true (by simp; omega),cond_true]
     have := ih (acc ++ [(k : Int)]) (by simp; omega)
     simp only at this ⊢
     rw [this,List.filter_cons,if_pos ht]
     simp
    | false =>
     have := ih acc (by omega)
     simp only at this ⊢
     rw [cond_false,this,List.filter_cons,if_neg (by rw [ht]; simp)]
   obtain ⟨g1,g2⟩ := hP k hk
   rw [zh hk,cond_true,zC hk,Option.bind_some,u2,Option.bind_some]
   cases hu : p0.Up with
   | false => exact j3 false (g1 (by rw [u2,hu]))
   | true =>
    obtain ⟨s1,s2,e1,e2,e3⟩ := g2 (by rw [u2,hu])
    rw [cond_true,e1,e2,Option.bind_some]
    cases s1 with
    | true => exact j3 s2 e3
    | false => exact j3 false e3
  ·obtain rfl : k = x.Ls.length := by omega
   rw [zY]
   simp
theorem zHO {n : Nat} {x : Net} (hx : zx n x) (P : Nat → Bool) (hP : ∀ k (hk : k < x.Ls.length),zU n x k = some (P k)) : ∀ (m k : Nat) (acc : List Int),k ≤ x.Ls.length → x.Ls.length < m + k → acc.length ≤ k → Zm n m x k acc = some (.inl (acc ++ ((List.range' k (x.Ls.length - k)).filter P).map fun j : Nat => (j : Int)))
 | 0,k,acc,h1,h2,h3 => by omega
 | m + 1,k,acc,h1,h2,h3 => by
  have h9 := hx.2.2.1.2.2.1
  rw [Zm]
  by_cases hk : k < x.Ls.length
  ·have ih := fun acc h3 => zHO hx P hP m (k + 1) acc (by omega) (by omega) h3
   have hr : List.range' k (x.Ls.length - k) = k :: List.range' (k + 1) (x.Ls.length - (k + 1)) := by
    rw [show x.Ls.length - k = (x.Ls.length - (k + 1)) + 1 by omega,List.range'_succ]
   rw [zh hk,cond_true,hP k hk,Option.bind_some,zK (by omega : k ≤ 1099511627776),hr,List.filter_cons]
   cases hp : P k with
   | true =>
    rw [cond_true,decide_eq_true (by simp; omega),cond_true,ih (acc ++ [(k : Int)]) (by simp; omega)]
    simp
   | false =>
    rw [cond_false,ih acc (by omega)]
    simp
  ·obtain rfl : k = x.Ls.length := by omega
   rw [zY]
   simp
theorem zGF (n : Nat) (x : Net) (b : Nat) (l : List Int) (xs : List Nat) (hu : Q6 n x = some l) (hj : ZK n x b l = some (xs.map fun j : Nat => (j : Int))) (hlen : xs.length ≤ 1000) (hn : 1048700 < n) (hxs : ∀ j ∈ xs,j < x.Bs.length) (hne : xs ≠ []) : ∃ r,∃ hr : r < x.Bs.length,r ∈ xs ∧ Ji n x b = some (r : Int) ∧ YE n x b = some x.Bs[r].Id ∧ ∀ j (hj : j < x.Bs.length),j ∈ xs → x.Bs[r].Id ≤ x.Bs[j].Id := by
 have loop : ∀ (m k : Nat) (y : Int),k ≤ xs.length → xs.length < m + k → ((y = -1 ∧ k = 0) ∨ ∃ r,∃ hr : r < x.Bs.length,y = (r : Int) ∧ r ∈ xs ∧ ∀ j (hj : j < x.Bs.length) (i : Nat) (hi : i < xs.length),i < k → xs[i] = j → x.Bs[r].Id ≤ x.Bs[j].Id) → ∃ y',Zb n m (xs.map fun j : Nat => (j : Int)) x k y = some (.inl y') ∧ ((y' = -1 ∧ xs.length = 0) ∨ ∃ r,∃ hr : r < x.Bs.length,y' = (r : Int) ∧ r ∈ xs ∧ ∀ j (hj : j < x.Bs.length) (i : Nat) (hi : i < xs.length),xs[i] = j → x.Bs[r].Id ≤ x.Bs[j].Id) := fun m => by
  induction m with
  | zero => intro k y h1 h2; omega
  | succ m ih =>
   intro k y h1 h2 hy
   rw [Zb]
   by_cases hk : k < xs.length
   ·have hk' : k < (xs.map fun j : Nat => (j : Int)).length := by simpa using hk
    have hv : xs[k] < x.Bs.length := hxs _ (List.getElem_mem hk)
    have hget : (xs.map fun j : Nat => (j : Int))[k] = (xs[k] : Int) := by simp
    rw [zh hk',cond_true,zC hk',Option.bind_some,hget,zK (by omega : k ≤ 1099511627776)]
    rcases hy with ⟨rfl,rfl⟩ | ⟨r,hr,rfl,hrm,hmin⟩
    ·rw [decide_eq_true (by decide),cond_true]
     exact ih 1 _ (by omega) (by omega) (.inr ⟨xs[0],hv,rfl,List.getElem_mem hk,fun j hj i hi hi1 e => by
      have : i = 0 := by omega
      subst this; subst e; exact Int.le_refl _⟩)
    ·rw [decide_eq_false (show ¬ (r : Int) < 0 by omega),cond_false,zC hv,Option.bind_some,zC hr,Option.bind_some]
     by_cases hlt : x.Bs[xs[k]].Id < x.Bs[r].Id
     ·rw [decide_eq_true hlt,cond_true]
      exact ih (k + 1) _ (by omega) (by omega) (.inr ⟨xs[k],hv,rfl,List.getElem_mem hk,fun j hj i hi hi1 e => by
       by_cases hik : i = k
       ·subst hik; subst e; exact Int.le_refl _
       ·have := hmin j hj i hi (by omega) e; omega⟩)
     ·rw [decide_eq_false hlt,cond_false]
      exact ih (k + 1) _ (by omega) (by omega) (.inr ⟨r,hr,rfl,hrm,fun j hj i hi hi1 e => by
       by_cases hik : i = k
       ·subst hik; subst e; omega
       ·exact hmin j hj i hi (by omega) e⟩)
   ·have he : k = (xs.map fun j : Nat => (j : Int)).length := by simp; omega
    rw [he,zY]
    refine ⟨y,rfl,?_⟩
    rcases hy with ⟨rfl,rfl⟩ | ⟨r,hr,rfl,hrm,hmin⟩
    ·exact .inl ⟨rfl,by omega⟩
    ·exact .inr ⟨r,hr,rfl,hrm,fun j hj i hi e => hmin j hj i hi (by omega) e⟩
 obtain ⟨y',e,h⟩ := loop n 0 (-1) (by omega) (by omega) (.inl ⟨rfl,rfl⟩)
 rcases h with ⟨_,h0⟩ | ⟨r,hr,rfl,hrm,hmin⟩
 ·exact absurd (List.eq_nil_of_length_eq_zero h0) hne
 ·have hroot : Ji n x b = some (r : Int) := by
   unfold Ji
   rw [hu,Option.bind_some,hj,Option.bind_some,show Zb n n (xs.map fun j : Nat => (j : Int)) x 0 (-1) = _ from e]
   rfl
  refine ⟨r,hr,hrm,hroot,?_,fun j hj hjm => ?_⟩
  ·unfold YE
   rw [hroot,Option.bind_some,decide_eq_false (by omega),cond_false,zC hr]
   rfl
  ·obtain ⟨i,hi,e⟩ := List.getElem_of_mem hjm
   exact hmin j hj i hi e
theorem zMG {α : Type} (p q : α → Bool) (l : List α) (h : ∀ a ∈ l,(p a = true ↔ q a = true)) : l.filter p = l.filter q := List.filter_congr fun a ha => by
 have := h a ha
 cases hp : p a <;> cases hq : q a <;> simp_all
theorem zJK {α : Type} (p : α → Bool) : ∀ l : List α,(l.filter p).length + (l.filter (fun a => !p a)).length = l.length
 | [] => rfl
 | a :: l => by
  have := zJK p l
  simp only [List.filter_cons,List.length_cons]
  cases p a <;> simp <;> omega
theorem zKb {n : Nat} {x : Net} (hn : 1048700 < n) (hx : zx n x) (ha : Qt n x = some true) : ∃ (live up : List Int) (isR : Nat → Bool),zAw n x = some live ∧ Q6 n x = some up ∧ live.length ≤ 9 ∧
  (∀ i (hi : i < x.Bs.length),∃ js,ZK n x i live = some js ∧ ZK n x i up = some js ∧ js.length ≤ 6 ∧ ∃ r,YE n x i = some r ∧ (isR i = true ↔ r = x.Bs[i].Id)) ∧
  live.length + ((List.range x.Bs.length).filter isR).length = x.Bs.length ∧ zBN n x live = some false := by
 obtain ⟨ids,V,rp,A,hids,hsnd⟩ := zLS hn hx ha
 have h9 := hx.2.2.1.2.2.1
 have h6 := hx.2.2.1.2.1.2
 have upE : ∀ k,∃ b : Bool,∀ hk : k < x.Ls.length,zU n x k = some b := fun k => by
  by_cases hk : k < x.Ls.length
  ·obtain ⟨p0,q0,_,_,_,_,u2,_⟩ := hx.linkV hk
   exact ⟨p0.Up,fun _ => u2⟩
  ·exact ⟨false,fun h => absurd h hk⟩
 obtain ⟨U,hU⟩ := Classical.skolem.1 upE
 have edge : ∀ k (hk : k < x.Ls.length),zU n x k = some true → ∃ (i j p q : Nat) (w : Int),x.Ls[k].A = i ∧ x.Ls[k].P = p ∧ x.Ls[k].B = j ∧ x.Ls[k].Q = q ∧ EdN n x k i p w j q := fun k hk hu => by
  obtain ⟨a,p',c,q',ea,ec,eA,eP,eB,eQ,hac,hp',hq',hp6,hq6⟩ := hx.ends hk
  refine ⟨a,c,p',q',x.Bs[a].Ps[p'].Co,eA,eP,eB,eQ,hk,hu,.inl ⟨eA,eP,eB,eQ⟩,ea,ec,?_⟩
  unfold zj
  rw [zC ea,Option.bind_some,zC hp']
  rfl
 have liveE : ∀ k,∃ b : Bool,∀ hk : k < x.Ls.length,(zU n x k = some false → b = false) ∧ (zU n x k = some true → ∃ s1 s2,ZW n x x.Ls[k].A x.Ls[k].P = some s1 ∧ ZW n x x.Ls[k].B x.Ls[k].Q = some s2 ∧ b = (s1 && s2)) := fun k => by
  by_cases hk : k < x.Ls.length
  ·cases hu : U k with
   | false => exact ⟨false,fun _ => ⟨fun _ => rfl,fun h => by rw [hU k hk,hu] at h; cases h⟩⟩
   | true =>
    obtain ⟨i,j,p,q,w,eA,eP,eB,eQ,he⟩ := edge k hk (by rw [hU k hk,hu])
    obtain ⟨b1,c1,_⟩ := hsnd _ _ _ _ _ _ he
    obtain ⟨w',he'⟩ := A.sym _ _ _ _ _ _ he
    obtain ⟨b2,c2,_⟩ := hsnd _ _ _ _ _ _ he'
    exact ⟨b1 && b2,fun _ => ⟨fun h => (by rw [hU k hk,hu] at h; cases h),fun _ => ⟨b1,b2,by rw [eA,eP]; exact c1,by rw [eB,eQ]; exact c2,rfl⟩⟩⟩
  ·exact ⟨false,fun h => absurd h hk⟩
 obtain ⟨L,hL⟩ := Classical.skolem.1 liveE
 have liveIff : ∀ k i p w j q,EdN n x k i p w j q → (L k = true ↔ (rp i = p ∨ rp j = q)) := fun k i p w j q he => by
  obtain ⟨hk,hu,hends,_⟩ := id he
  obtain ⟨i0,j0,p0,q0,w0,eA,eP,eB,eQ,he0⟩ := edge k hk hu
  obtain ⟨s1,s2,c1,c2,c3⟩ := (hL k hk).2 hu
  obtain ⟨b1,d1,d2⟩ := hsnd _ _ _ _ _ _ he0
  obtain ⟨w',he0'⟩ := A.sym _ _ _ _ _ _ he0
  obtain ⟨b2,d3,d4⟩ := hsnd _ _ _ _ _ _ he0'
  rw [eA,eP,d1] at c1
  rw [eB,eQ,d3] at c2
  have c1 := Option.some.inj c1
  have c2 := Option.some.inj c2
  have key : L k = true ↔ (rp i0 = p0 ∨ rp j0 = q0) := by
   rw [c3,Bool.and_eq_true,← c1,← c2,d2,d4]
   exact A.liveA he0
  rcases A.two _ _ _ _ _ _ _ _ _ _ _ he0 he with ⟨rfl,rfl,_,rfl,rfl⟩ | ⟨rfl,rfl,rfl,rfl⟩
  ·exact key
  ·rw [key]; exact or_comm
 have liveUp : ∀ k (hk : k < x.Ls.length),L k = true → zU n x k = some true := fun k hk h => by
  have := hU k hk
  cases hu : U k with
  | true => rw [this,hu]
  | false => rw [hu] at this; rw [(hL k hk).1 this] at h; cases h
 have childE : ∀ k (hk : k < x.Ls.length),L k = true → ∃ i w j q,EdN n x k i (rp i) w j q := fun k hk h => by
  obtain ⟨i,j,p,q,w,_,_,_,_,he⟩ := edge k hk (liveUp k hk h)
  rcases (liveIff _ _ _ _ _ _ he).1 h with h1 | h1
  ·exact ⟨i,w,j,q,by rw [h1]; exact he⟩
  ·obtain ⟨w',he'⟩ := A.sym _ _ _ _ _ _ he
   exact ⟨j,w',i,p,by rw [h1]; exact he'⟩
 have hLive : zAw n x = some (((List.range' 0 x.Ls.length).filter L).map fun j : Nat => (j : Int)) := by
  have := zJ4 hn hx L hL n 0 [] (by omega) (by omega) (by simp)
  unfold zAw
  rw [show ZL n n x 0 [] = _ from this]
  simp [zAa]
 have hUp : Q6 n x = some (((List.range' 0 x.Ls.length).filter U).map fun j : Nat => (j : Int)) := by
  have := zHO hx U (fun k hk => hU k hk) n 0 [] (by omega) (by omega) (by simp)
  unfold Q6
  rw [show Zm n n x 0 [] = _ from this]
  simp [JC]
 have memF : ∀ (P : Nat → Bool) (z : Int),z ∈ (((List.range' 0 x.Ls.length).filter P).map fun j : Nat => (j : Int)) ↔ ∃ k : Nat,k < x.Ls.length ∧ P k = true ∧ z = k := fun P z => by
  rw [List.mem_map]
  constructor
  ·rintro ⟨k,hk,rfl⟩
   obtain ⟨h1,h2⟩ := List.mem_filter.1 hk
   exact ⟨k,by have := List.mem_range'_1.1 h1; omega,h2,rfl⟩
  ·rintro ⟨k,h1,h2,rfl⟩
   exact ⟨k,List.mem_filter.2 ⟨List.mem_range'_1.2 (by omega),h2⟩,rfl⟩
 have lenF : ∀ P : Nat → Bool,(((List.range' 0 x.Ls.length).filter P).map fun j : Nat => (j : Int)).length ≤ 9 := fun P => by
  rw [List.length_map]
  have := List.length_filter_le P (List.range' 0 x.Ls.length)
  rw [List.length_range'] at this
  omega
 have lnk : ∀ (l : List Int),(∀ z ∈ l,∃ k : Nat,k < x.Ls.length ∧ zU n x k = some true ∧ z = k) → ∀ i j,zEQ x l i j → ∃ (k : Nat) (p w q : Int),(k : Int) ∈ l ∧ EdN n x k i p w j q := fun l hl i j ⟨z,hz,lk,hlk,hA,hB,hi,hj⟩ => by
  obtain ⟨k,hk,hu,rfl⟩ := hl z hz
  rw [zC hk] at hlk
  have hlk := Option.some.inj hlk
  obtain ⟨i0,j0,p0,q0,w0,eA,eP,eB,eQ,he0⟩ := edge k hk hu
  rw [hlk] at eA eB
  have e1 : i0 = i := by omega
  have e2 : j0 = j := by omega
  subst e1 e2
  exact ⟨k,p0,w0,q0,hz,he0⟩
 have upMem : ∀ z ∈ (((List.range' 0 x.Ls.length).filter U).map fun j : Nat => (j : Int)),∃ k : Nat,k < x.Ls.length ∧ zU n x k = some true ∧ z = k := fun z hz => by
  obtain ⟨k,h1,h2,h3⟩ := (memF U z).1 hz
  exact ⟨k,h1,by rw [hU k h1,h2],h3⟩
 have liveMem : ∀ z ∈ (((List.range' 0 x.Ls.length).filter L).map fun j : Nat => (j : Int)),∃ k : Nat,k < x.Ls.length ∧ zU n x k = some true ∧ z = k := fun z hz => by
  obtain ⟨k,h1,h2,h3⟩ := (memF L z).1 hz
  exact ⟨k,h1,liveUp k h1 h2,h3⟩
 have ofEdge : ∀ (P : Nat → Bool) k i p w j q,EdN n x k i p w j q → P k = true → zEQ x (((List.range' 0 x.Ls.length).filter P).map fun j : Nat => (j : Int)) i j ∨ zEQ x (((List.range' 0 x.Ls.length).filter P).map fun j : Nat => (j : Int)) j i := fun P k i p w j q ⟨hk,hu,he,hi,hj,hc⟩ hp => by
  have hm := (memF P k).2 ⟨k,hk,hp,rfl⟩
  rcases he with ⟨r1,_,r3,_⟩ | ⟨r1,_,r3,_⟩
  ·exact .inl ⟨k,hm,x.Ls[k],zC hk,r1,r3,hi,hj⟩
  ·exact .inr ⟨k,hm,x.Ls[k],zC hk,r3,r1,hj,hi⟩
 have upOf' : ∀ k i p w j q,EdN n x k i p w j q → U k = true := fun k i p w j q ⟨hk,hu,_⟩ => by
  rw [hU k hk] at hu; exact Option.some.inj hu
 have way : ∀ i,i < x.Bs.length → ∃ r,r < x.Bs.length ∧ ids r = (V i).1 ∧ ∀ S : Nat → Prop,(∀ k i p w j q,EdN n x k i p w j q → rp i = p → (S i ↔ S j)) → (S i ↔ S r) := fun i hi => by
  obtain ⟨m,hm⟩ := Int.eq_ofNat_of_zero_le (A.hop i hi)
  exact A.wayA m i hi hm
 have closeLive : ∀ S : Nat → Prop,(∀ i j,zEQ x (((List.range' 0 x.Ls.length).filter L).map fun j : Nat => (j : Int)) i j → (S i ↔ S j)) → ∀ k i p w j q,EdN n x k i p w j q → rp i = p → (S i ↔ S j) := fun S hS k i p w j q he hp => by
  rcases ofEdge L k i p w j q he ((liveIff _ _ _ _ _ _ he).2 (.inl hp)) with h | h
  ·exact hS _ _ h
  ·exact (hS _ _ h).symm
 have isRE : ∀ i,∃ b : Bool,b = true ↔ (V i).1 = ids i := fun i => by
  by_cases h : (V i).1 = ids i
  ·exact ⟨true,by simp [h]⟩
  ·exact ⟨false,by simp [h]⟩
 obtain ⟨R,hR⟩ := Classical.skolem.1 isRE
 refine ⟨_,_,R,hLive,hUp,lenF L,fun i hi => ?_,?_,?_⟩
 ·obtain ⟨f,f1,f2,f3,f4⟩ := zBo n x i (((List.range' 0 x.Ls.length).filter L).map fun j : Nat => (j : Int)) hi (by omega) (by omega) (by have := lenF L; omega) hn
  obtain ⟨g,g1,g2,g3,g4⟩ := zBo n x i (((List.range' 0 x.Ls.length).filter U).map fun j : Nat => (j : Int)) hi (by omega) (by omega) (by have := lenF U; omega) hn
  have rootG : ∀ j,g j = true → j < x.Bs.length → (V j).1 = (V i).1 := fun j hj _ => g4 (fun j => (V j).1 = (V i).1) (fun a b h => by
   obtain ⟨k,p,w,q,_,he⟩ := lnk _ upMem a b h
   rw [A.rootA he]) rfl j hj
  have same : (List.range' 0 x.Bs.length).filter f = (List.range' 0 x.Bs.length).filter g := zMG _ _ _ fun j hj => by
   have hj : j < x.Bs.length := by have := List.mem_range'_1.1 hj; omega
   constructor
   ·exact fun h => f4 (fun j => g j = true) (fun a b hab => by
     obtain ⟨k,p,w,q,hk,he⟩ := lnk _ liveMem a b hab
     rcases ofEdge U k a p w b q he (upOf' _ _ _ _ _ _ he) with h | h
     ·exact g3 _ _ h
     ·exact (g3 _ _ h).symm) g2 j h
   ·intro h
    obtain ⟨r,r1,r2,r3⟩ := way i hi
    obtain ⟨s,s1,s2,s3⟩ := way j hj
    have hrs : r = s := A.inj r s r1 s1 (by rw [r2,s2,rootG j h hj])
    subst hrs
    have hc := closeLive (fun j => f j = true) f3
    exact (s3 _ hc).2 ((r3 _ hc).1 f2)
  have hlen : ((List.range' 0 x.Bs.length).filter g).length ≤ 6 := by
   have := List.length_filter_le g (List.range' 0 x.Bs.length)
   rw [List.length_range'] at this
   omega
  refine ⟨_,f1,by rw [same]; exact g1,by rw [List.length_map,same]; exact hlen,?_⟩
  obtain ⟨r,hr,hrm,_,hrt,hmin⟩ := zGF n x i _ ((List.range' 0 x.Bs.length).filter g) hUp g1 (by omega) hn (fun j hj => by have := List.mem_range'_1.1 (List.mem_filter.1 hj).1; omega) (List.ne_nil_of_mem (List.mem_filter.2 ⟨List.mem_range'_1.2 (by omega),g2⟩))
  refine ⟨_,hrt,?_⟩
  obtain ⟨s,s1,s2,s3⟩ := way i hi
  have hgs : g s = true := (s3 (fun j => g j = true) (fun k a p w b q he hp => by
   rcases ofEdge U k a p w b q he (upOf' _ _ _ _ _ _ he) with h | h
   ·exact g3 _ _ h
   ·exact (g3 _ _ h).symm)).1 g2
  have m1 := hmin s s1 (List.mem_filter.2 ⟨List.mem_range'_1.2 (by omega),hgs⟩)
  have hgr := (List.mem_filter.1 hrm).2
  have m2 := A.rootLeA hr
  rw [rootG r hgr hr] at m2
  rw [hids r hr] at m2
  rw [hids s s1] at s2
  rw [hR,hids i hi]
  constructor <;> intro h <;> omega
 ·
  have up1 : ∀ i,∃ k : Nat,(V i).1 ≠ ids i → i < x.Bs.length → ∃ w j q,EdN n x k i (rp i) w j q := fun i => by
   by_cases h : (V i).1 ≠ ids i ∧ i < x.Bs.length
   ·rcases A.childA h.2 with ⟨_,h2⟩ | ⟨_,k,w,j,q,he⟩
    ·exact absurd h2 h.1
    ·exact ⟨k,fun _ _ => ⟨w,j,q,he⟩⟩
   ·exact ⟨0,fun h1 h2 => absurd ⟨h1,h2⟩ h⟩
  obtain ⟨K,hK⟩ := Classical.skolem.1 up1
  have memN : ∀ i,i ∈ (List.range x.Bs.length).filter (fun i => !R i) → i < x.Bs.length ∧ (V i).1 ≠ ids i := fun i hi => by
   obtain ⟨h1,h2⟩ := List.mem_filter.1 hi
   refine ⟨List.mem_range.1 h1,fun h => ?_⟩
   rw [(hR i).2 h] at h2
   cases h2
  have nd1 : (((List.range x.Bs.length).filter (fun i => !R i)).map fun i => (K i : Int)).Nodup := by
   refine List.pairwise_map.2 (List.Pairwise.imp_of_mem (fun {a b} ha hb hab => ?_) ((List.nodup_range (n := x.Bs.length)).filter _))
   obtain ⟨a1,a2⟩ := memN a ha
   obtain ⟨b1,b2⟩ := memN b hb
   obtain ⟨wa,ja,qa,ea⟩ := hK a a2 a1
   obtain ⟨wb,jb,qb,eb⟩ := hK b b2 b1
   intro hk
   have hk : K a = K b := by omega
   rw [hk] at ea
   rcases A.two _ _ _ _ _ _ _ _ _ _ _ ea eb with ⟨h,_⟩ | ⟨h1,h2,_⟩
   ·exact hab h.symm
   ·subst h1
    exact A.notBoth ea ⟨rfl,h2⟩
  have nd2 : (((List.range' 0 x.Ls.length).filter L).map fun j : Nat => (j : Int)).Nodup := by
   refine List.pairwise_map.2 (List.Pairwise.imp (fun {a b} hab => ?_) ((List.nodup_range' (s := 0) (n := x.Ls.length)).filter _))
   omega
  have l1 := zDS _ _ nd1 (fun z hz => by
   obtain ⟨i,hi,rfl⟩ := List.mem_map.1 hz
   obtain ⟨h1,h2⟩ := memN i hi
   obtain ⟨w,j,q,he⟩ := hK i h2 h1
   exact (memF L _).2 ⟨K i,he.1,(liveIff _ _ _ _ _ _ he).2 (.inl rfl),rfl⟩)
  have l2 := zDS _ (((List.range x.Bs.length).filter (fun i => !R i)).map fun i => (K i : Int)) nd2 (fun z hz => by
   obtain ⟨k,hk,hl,rfl⟩ := (memF L z).1 hz
   obtain ⟨i,w,j,q,he⟩ := childE k hk hl
   have r := A.rng _ _ _ _ _ _ he
   have hne : (V i).1 ≠ ids i := fun h => by
    rcases A.childA r.1 with ⟨h1,_⟩ | ⟨h1,_⟩ <;> omega
   obtain ⟨w',j',q',he'⟩ := hK i hne r.1
   have := A.one _ _ _ _ _ _ _ _ _ _ he he'
   refine List.mem_map.2 ⟨i,List.mem_filter.2 ⟨List.mem_range.2 r.1,?_⟩,by rw [this]⟩
   cases hri : R i with
   | true => exact absurd ((hR i).1 hri) hne
   | false => rfl)
  have l3 := zJK R (List.range x.Bs.length)
  rw [List.length_range] at l3
  simp only [List.length_map] at l1 l2 ⊢
  omega
 ·
  generalize hlive : (((List.range' 0 x.Ls.length).filter L).map fun j : Nat => (j : Int)) = live at *
  have nd : live.Nodup := by
   rw [← hlive]
   refine List.pairwise_map.2 (List.Pairwise.imp (fun {a b} hab => ?_) ((List.nodup_range' (s := 0) (n := x.Ls.length)).filter _))
   omega
  have l9 : live.length ≤ 9 := by rw [← hlive]; exact lenF L
  have loop : ∀ (m i : Nat),i ≤ live.length → live.length < m + i → QU n m x live i = some (.inl ()) := fun m => by
   induction m with
   | zero => intro i h1 h2; omega
   | succ m ih =>
    intro i h1 h2
    rw [QU]
    by_cases hi : i < live.length
    ·obtain ⟨k,hk,hlk,ek⟩ := (memF L live[i]).1 (by rw [hlive]; exact List.getElem_mem hi)
     obtain ⟨a,c,p,q,w,eA,eP,eB,eQ,he⟩ := edge k hk (liveUp k hk hlk)
     have hrange : (0 ≤ live[i] ∧ live[i] < x.Ls.length) := by rw [ek]; omega
     rw [zh hi,cond_true,zC hi,Option.bind_some,qW,QR n _ _ (show x.Ls.length ≤ 1048600 by omega),Option.bind_some,decide_eq_true hrange,Bool.not_true,cond_false,zK (by omega : i ≤ 1099511627776)]
     have g1 : (decide ((0 : Int) ≤ 0) && (decide ((0 : Int) ≤ (i : Int)) && decide ((i : Int) ≤ (live.length : Int)))) = true := by
      rw [decide_eq_true (by omega),decide_eq_true (by omega),decide_eq_true (by omega)]; rfl
     have g2 : (decide ((0 : Int) ≤ ((i + 1 : Nat) : Int)) && (decide (((i + 1 : Nat) : Int) ≤ (live.length : Int)) && decide ((live.length : Int) ≤ (live.length : Int)))) = true := by
      rw [decide_eq_true (by omega),decide_eq_true (by omega),decide_eq_true (by omega)]; rfl
     have t1 : (live.drop ((0 : Int)).toNat).take (((i : Int)).toNat - ((0 : Int)).toNat) = live.take i := by simp
     have t2 : (live.drop ((((i + 1 : Nat) : Int)) : Int).toNat).take (((live.length : Int)).toNat - (((i + 1 : Nat) : Int)).toNat) = live.drop (i + 1) := by
      simp only [Int.toNat_natCast]
      exact List.take_of_length_le (by simp)
     rw [g1,cond_true,t1,zGv n (live.take i) (by simp; omega),Option.bind_some,g2,cond_true,t2]
     have hothers : (live.take i ++ live.drop (i + 1)).length ≤ 9 := by
      rw [List.length_append,List.length_take,List.length_drop]; omega
     rw [decide_eq_true (by rw [← List.length_append]; omega),cond_true,ek,zC hk,Option.bind_some,eA]
     have oth : ∀ z ∈ live.take i ++ live.drop (i + 1),z ∈ live ∧ z ≠ (k : Int) := fun z hz => by
      rcases List.mem_append.1 hz with hz | hz
      ·obtain ⟨j,hj,rfl⟩ := List.getElem_of_mem hz
       rw [List.length_take] at hj
       refine ⟨by rw [List.getElem_take]; exact List.getElem_mem _,?_⟩
       rw [List.getElem_take,← ek]
       exact fun h => List.pairwise_iff_getElem.1 nd j i (by omega) hi (by omega) h
      ·obtain ⟨j,hj,rfl⟩ := List.getElem_of_mem hz
       rw [List.length_drop] at hj
       refine ⟨by rw [List.getElem_drop]; exact List.getElem_mem _,?_⟩
       rw [List.getElem_drop,← ek]
       exact fun h => List.pairwise_iff_getElem.1 nd i (i + 1 + j) hi (by omega) (by omega) h.symm
     obtain ⟨f,f1,f2,f3,f4⟩ := zBo n x a (live.take i ++ live.drop (i + 1)) he.2.2.2.1 (by omega) (by omega) (by omega) hn
     rw [f1,Option.bind_some,Option.bind_some,eB]
     have flen : (((List.range' 0 x.Bs.length).filter f).map fun j : Nat => (j : Int)).length ≤ 6 := by
      rw [List.length_map]
      have := List.length_filter_le f (List.range' 0 x.Bs.length)
      rw [List.length_range'] at this
      omega
     rw [zHW n _ _ (by omega) (by omega),Option.bind_some]
     obtain ⟨w',he'⟩ := A.sym _ _ _ _ _ _ he
     have closed : ∀ (c0 : Nat) (w0 : Int) (d0 : Nat) (q0 : Int),EdN n x k c0 (rp c0) w0 d0 q0 → ∀ i' j',zEQ x (live.take i ++ live.drop (i + 1)) i' j' → (JW rp (EdN n x) c0 i' ↔ JW rp (EdN n x) c0 j') := fun c0 w0 d0 q0 h0 i' j' hl => by
      obtain ⟨k',p',w1,q',hk',he1⟩ := lnk _ (fun z hz => liveMem z (oth z hz).1) i' j' hl
      obtain ⟨o1,o2⟩ := oth _ hk'
      have hne : k' ≠ k := fun h => o2 (by rw [h])
      have hlv : L k' = true := by
       rw [← hlive] at o1
       obtain ⟨k2,_,h2,h3⟩ := (memF L _).1 o1
       rw [show k' = k2 by omega]; exact h2
      rcases (liveIff _ _ _ _ _ _ he1).1 hlv with h | h
      ·exact (A.apart h0).2.2 _ _ _ _ _ _ hne he1 h
      ·obtain ⟨w2,he2⟩ := A.sym _ _ _ _ _ _ he1
       exact ((A.apart h0).2.2 _ _ _ _ _ _ hne he2 h).symm
     have hno : ¬ (c : Int) ∈ (((List.range' 0 x.Bs.length).filter f).map fun j : Nat => (j : Int)) := fun hm => by
      obtain ⟨c',hc',ec⟩ := List.mem_map.1 hm
      have : c' = c := by omega
      subst this
      have hfc := (List.mem_filter.1 hc').2
      rcases (liveIff _ _ _ _ _ _ he).1 hlk with h | h
      ·have h0 : EdN n x k a (rp a) w c' q := by rw [h]; exact he
       exact (A.apart h0).2.1 (f4 _ (closed _ _ _ _ h0) (A.apart h0).1 c' hfc)
      ·have h0 : EdN n x k c' (rp c') w' a p := by rw [h]; exact he'
       exact f4 (fun j => ¬ JW rp (EdN n x) c' j) (fun i' j' hl => not_congr (closed _ _ _ _ h0 i' j' hl)) (A.apart h0).2.1 c' hfc (A.apart h0).1
     rw [decide_eq_false hno,cond_false]
     exact ih (i + 1) (by omega) (by omega)
    ·obtain rfl : i = live.length := by omega
     rw [zY]
     rfl
  unfold zBN
  rw [show QU n n x live 0 = _ from loop n 0 (by omega) (by omega)]
  rfl
theorem zKI {n : Nat} (ls : List Link) (B : Nat → List zA) (S : Nat → List Say) (h : ∀ t,Yg n ⟨B t,ls,S t⟩ = some ⟨B (t + 1),ls,S (t + 1)⟩) (t : Nat) (ht : t ≤ 21) : ∀ (m k : Nat),k ≤ t → t < m + k → Ql n m t k (B k) ls (S k) = some (.inl (B t,ls,S t))
 | 0,k,h1,h2 => by omega
 | m + 1,k,h1,h2 => by
  have hif : (if (if (30 : Int) < (t : Int) then (30 : Int) else (t : Int)) > 0 then (if (30 : Int) < (t : Int) then (30 : Int) else (t : Int)) else 0) = (t : Int) := by
   rw [if_neg (show ¬ (30 : Int) < (t : Int) by omega)]
   split <;> omega
  have hif2 : (if (t : Int) > 0 then (t : Int) else 0) = (t : Int) := by split <;> omega
  have hif3 : (if (t : Int) < 30 then (t : Int) else 30) = (t : Int) := by split <;> omega
  rw [Ql]
  simp only [hif,hif2,hif3]
  by_cases hk : k < t
  ·rw [decide_eq_true (show (k : Int) < (t : Int) by omega),cond_true,h k,Option.bind_some,zK (by omega : k ≤ 1099511627776)]
   exact zKI ls B S h t ht m (k + 1) (by omega) (by omega)
  ·obtain rfl : k = t := by omega
   rw [decide_eq_false (by omega)]
   rfl
theorem zEN (x0 : List Int) (w0 : YK zF6 x0) : ∃ n,JD n x0 = some true := by
 refine ⟨1048800,?_⟩
 simp only [JD,zEc,Option.bind_some]
 by_cases hbig : (x0.length : Int) > 1048576
 ·rw [decide_eq_true hbig]; rfl
 have hn : 1048700 < 1048800 := by decide
 obtain ⟨y,zs,e1,g1,l1⟩ := zHe x0 (by omega)
 obtain ⟨r,er,_⟩ := zKk 1048800 x0 w0 (by omega) 2 (by omega)
 have er : zBr 1048800 x0 2 = some (r : Int) := er
 obtain ⟨t,ht⟩ : ∃ t : Nat,Int.tmod (r : Int) 22 = (t : Int) := ⟨r % 22,by rw [Int.tmod_eq_emod_of_nonneg (by omega)]; omega⟩
 have ht21 : t ≤ 21 := by
  have : Int.tmod (r : Int) 22 = (r : Int) % 22 := Int.tmod_eq_emod_of_nonneg (by omega)
  omega
 rw [decide_eq_false hbig,cond_false,e1,Option.bind_some,er,Option.bind_some,show decide ((22 : Int) ≠ 0) = true by decide,cond_true,ht]
 obtain ⟨B,S,hB,hS,h⟩ := zLr hn g1
 have hsz := g1.sz
 have er2 : Jc 1048800 y (t : Int) = some ⟨B t,y.Ls,S t⟩ := by
  unfold Jc
  rw [zBp 1048800 y (by omega) (by omega),Option.bind_some,← hB,← hS,show Ql 1048800 1048800 (t : Int) 0 (B 0) y.Ls (S 0) = _ from zKI y.Ls B S (fun t => (h t).2.1) t ht21 1048800 0 (by omega) (by omega)]
  rfl
 simp only
 rw [er2,Option.bind_some]
 have hx := (h t).1
 generalize (⟨B t,y.Ls,S t⟩ : Net) = x at hx
 have hxs := hx.sz
 obtain ⟨b,b1,b2⟩ := zGz 1048800 x hx.1 (by omega) (by omega)
 rw [b1,b2,Option.bind_some,Option.bind_some]
 cases b with
 | false => rfl
 | true =>
  obtain ⟨live,up,R,t1,t2,t3,t4,t5,t6⟩ := zKb hn hx b2
  have h6 := hx.2.2.1.2.1.2
  have loop : ∀ (m k c : Nat),k ≤ x.Bs.length → x.Bs.length < m + k → c ≤ k → qY 1048800 m x live up k c = some (.inl ((c + ((List.range' k (x.Bs.length - k)).filter R).length : Nat) : Int)) := fun m => by
   induction m with
   | zero => intro k c h1 h2; omega
   | succ m ih =>
    intro k c h1 h2 h3
    rw [qY]
    by_cases hk : k < x.Bs.length
    ·obtain ⟨js,j1,j2,j3,r,j4,j5⟩ := t4 k hk
     have hr : List.range' k (x.Bs.length - k) = k :: List.range' (k + 1) (x.Bs.length - (k + 1)) := by
      rw [show x.Bs.length - k = (x.Bs.length - (k + 1)) + 1 by omega,List.range'_succ]
     rw [zh hk,cond_true,j4,Option.bind_some,zC hk,Option.bind_some,hr,List.filter_cons]
     simp only [QB,j1,j2,Option.bind_some,zFy 1048800 js (by omega) (by omega),Bool.not_true,cond_false,zK (by omega : k ≤ 1099511627776),zK (by omega : c ≤ 1099511627776)]
     cases hR : R k with
     | true =>
      rw [show (r == x.Bs[k].Id) = true by simpa using j5.1 hR,cond_true,ih (k + 1) (c + 1) (by omega) (by omega) (by omega)]
      simp only [if_true,List.length_cons]
      rw [show c + 1 + ((List.range' (k + 1) (x.Bs.length - (k + 1))).filter R).length = c + (((List.range' (k + 1) (x.Bs.length - (k + 1))).filter R).length + 1) by omega]
     | false =>
      have : ¬ r = x.Bs[k].Id := fun h => by rw [j5.2 h] at hR; cases hR
      rw [show (r == x.Bs[k].Id) = false by simpa using this,cond_false,ih (k + 1) c (by omega) (by omega) (by omega)]
      simp
    ·obtain rfl : k = x.Bs.length := by omega
     rw [zY]
     simp
  rw [Bool.not_true,cond_false,t1,Option.bind_some,t2,Option.bind_some,show qY 1048800 1048800 x live up 0 0 = _ from loop 1048800 0 0 (by omega) (by omega) (by omega)]
  simp only [Option.bind_some,Qw,t6,Bool.not_false,cond_true,Nat.zero_add,Nat.sub_zero]
  rw [List.range_eq_range'] at t5
  have : (live.length : Int) = IntKind.wrap .i64 ((x.Bs.length : Int) - ((((List.range' 0 x.Bs.length).filter R).length : Nat) : Int)) := by
   rw [wrap64 (by omega) (by omega)]; omega
  rw [this,beq_self_eq_true]
end Go.Proofs.YtajadnlejdpceaaGreat.Tw
