import Derived.Test.YtajadnlejdpceaaGreatTwSBP0
import Derived.Test.YtajadnlejdpceaaGreatTlPlain
set_option linter.unusedVariables false
set_option linter.unusedSimpArgs false
set_option maxRecDepth 100000
set_option maxHeartbeats 1000000
namespace Go.Proofs.YtajadnlejdpceaaGreat.Tw
open Go Go.TL Go.Proofs
theorem zBP (n : Nat) (p : Pt) (h : qC n p = some true) : (1 ≤ p.Co ∧ p.Co ≤ 1000) ∧ (p.Has = true → p.Up = true ∧ zo n p.Hd = some true) ∧ (p.Has = false → p.Hd = ⟨0,0,0,0,0⟩) := by
 unfold qC at h
 rw [zP,bQ] at h
 cases hc : (decide (1 ≤ p.Co) && decide (p.Co ≤ 1000)) with
 | false => rw [hc] at h; cases h
 | true =>
  have h0 : ∀ {v : Vec},some ((v.Root == 0) && ((v.Co == 0) && ((v.Hops == 0) && ((v.Bridge == 0) && ((v.Port == 0) && true))))) = some true → v = ⟨0,0,0,0,0⟩ := fun {v} e => by
   have e := Option.some.inj e
   simp only [Bool.and_eq_true,beq_iff_eq] at e
   obtain ⟨a,b,c,d,f,_⟩ := e
   cases v
   simp_all
  simp only [Bool.and_eq_true,decide_eq_true_eq] at hc
  rw [tQ hc.1,tQ hc.2] at h
  simp only [Bool.and_self,nQ,fQ] at h
  cases hu : p.Up with
  | false =>
   rw [hu] at h
   simp only [Bool.not_false,cQ] at h
   cases hh : p.Has with
   | true => rw [hh] at h; cases h
   | false => rw [hh] at h; exact ⟨hc,fun e => (by cases e),fun _ => h0 h⟩
  | true =>
   rw [hu] at h
   simp only [nQ,fQ] at h
   cases hh : p.Has with
   | false => rw [hh] at h; exact ⟨hc,fun e => (by cases e),fun _ => h0 h⟩
   | true =>
    rw [hh] at h
    simp only [nQ,fQ] at h
    obtain ⟨b,hb,h⟩ := bind_some h
    cases h
    exact ⟨hc,fun _ => ⟨rfl,hb⟩,fun e => (by cases e)⟩
theorem zDu (n : Nat) (c : Int) (up : Bool) (h : 1 ≤ c ∧ c ≤ 1000) : qC n ⟨up,c,false,⟨0,0,0,0,0⟩⟩ = some true := by
 unfold qC
 rw [zP,bQ,tQ h.1,tQ h.2]
 cases up <;> rfl
theorem zDv (n : Nat) (c : Int) (v : Vec) (h : 1 ≤ c ∧ c ≤ 1000) (hv : zo n v = some true) : qC n ⟨true,c,true,v⟩ = some true := by
 unfold qC
 rw [zP,bQ,tQ h.1,tQ h.2]
 simp only [Bool.and_self,nQ,fQ,hv,bQ]
theorem zKe {α : Type} {P : α → Prop} {xs : List α} {k : Nat} {v : α} (h : ∀ j (hj : j < xs.length),P xs[j]) (hv : P v) : ∀ j (hj : j < (xs.set k v).length),P (xs.set k v)[j] := fun j hj => by
 rw [List.getElem_set]
 split
 ·exact hv
 ·exact h j (by simpa using hj)
theorem zFd (n : Nat) (x : zA) (k : Nat) (up : Bool) (wx : x.wf) (hx : x.sz ≤ 1048576) (hn : 1048577 < n) (hb : zU n x = some true) (hk : k < x.Ps.length) : ∃ y : zA,Qj n x k up = some y ∧ YN n x k up = some y ∧ zU n y = some true ∧ y.wf ∧ y.sz ≤ x.sz ∧ y.Id = x.Id ∧ y.Ps = x.Ps.set k ⟨up,x.Ps[k].Co,false,⟨0,0,0,0,0⟩⟩ ∧ ∃ b,QJ n y.Id y.Ps = some b ∧ (∀ u ∈ y.F,u.Sc = true ∨ ∀ j : Nat,j < y.Ps.length → zEp b j = false → u.Port ≠ j) ∧ y.F.Sublist x.F := by
 have hs : x.Name.size + x.Ps.length + x.F.length + x.V.sz = x.sz := rfl
 obtain ⟨b,h1,h2⟩ := Zw n x wx (by omega) (by omega)
 rw [hb] at h1
 obtain rfl := Option.some.inj h1
 obtain ⟨p1,p2,p3,p4,p5,p6,p7,p8,p9,p10,p11,p12,p13⟩ := qU n x (by omega) hb
 have hc := (zBP n _ (p13 k hk)).1
 have wk := (wx.2.2.1.2 _ (List.getElem_mem hk))
 obtain ⟨zs,v,bb,e1,e2,e3,e4,e5,e6,e7,e8⟩ := zKx n x hn wx hx hb (x.Ps.set k ⟨up,x.Ps[k].Co,false,⟨0,0,0,0,0⟩⟩) (by simp) (zKe (P := fun q => qC n q = some true) p13 (zDu n _ up hc)) (zB7 wx.2.2.1 ⟨wk.1,zFM.1,zFM.2.1,zFM.2.2.1,zFM.2.2.2.1,zFM.2.2.2.2.1,trivial⟩) x.F (Nat.le_refl _) (zCq n x.F (by omega) p6) x.Tk p8.1 p8.2
 have there : (true && (decide ((0 : Int) ≤ k) && decide ((k : Int) < x.Ps.length))) = true := by
  rw [tQ (by omega),tQ (by omega)]; rfl
 refine ⟨_,?_,?_,e3,e4,e5,rfl,rfl,bb,e6,e7,e8⟩
 ·unfold Qj
  rw [Yd n x (by omega),bQ,J1 n x k true hb (by omega),bQ,there]
  simp only [nQ,fQ,zI hk,bQ,Int.toNat_natCast,e1]
 ·unfold YN
  rw [Qc n x (by omega),bQ,zAi n x k true h2 (by omega),bQ,there]
  simp only [cQ,zI hk,bQ,Int.toNat_natCast,e2]
theorem zJC (n : Nat) (x : zA) (k : Nat) (u : Vec) (wx : x.wf) (hx : x.sz ≤ 1048576) (hn : 1048577 < n) (hb : zU n x = some true) (hk : k < x.Ps.length) (hu : x.Ps[k].Up = true) (hv : zo n u = some true) : ∃ y : zA,ZU n x k u = some y ∧ Zg n x k u = some y ∧ zU n y = some true ∧ y.wf ∧ y.sz ≤ x.sz ∧ y.Id = x.Id ∧ y.Ps = x.Ps.set k ⟨true,x.Ps[k].Co,true,u⟩ ∧ ∃ b,QJ n y.Id y.Ps = some b ∧ (∀ u ∈ y.F,u.Sc = true ∨ ∀ j : Nat,j < y.Ps.length → zEp b j = false → u.Port ≠ j) ∧ y.F.Sublist x.F := by
 have hs : x.Name.size + x.Ps.length + x.F.length + x.V.sz = x.sz := rfl
 obtain ⟨b,h1,h2⟩ := Zw n x wx (by omega) (by omega)
 rw [hb] at h1
 obtain rfl := Option.some.inj h1
 obtain ⟨p1,p2,p3,p4,p5,p6,p7,p8,p9,p10,p11,p12,p13⟩ := qU n x (by omega) hb
 have hc := (zBP n _ (p13 k hk)).1
 have wk := (wx.2.2.1.2 _ (List.getElem_mem hk))
 have wu := zCE n u hv
 obtain ⟨zs,v,bb,e1,e2,e3,e4,e5,e6,e7,e8⟩ := zKx n x hn wx hx hb (x.Ps.set k ⟨true,x.Ps[k].Co,true,u⟩) (by simp) (zKe (P := fun q => qC n q = some true) p13 (zDv n _ u hc hv)) (zB7 wx.2.2.1 ⟨wk.1,wu.1,wu.2.1,wu.2.2.1,wu.2.2.2.1,wu.2.2.2.2.1,trivial⟩) x.F (Nat.le_refl _) (zCq n x.F (by omega) p6) x.Tk p8.1 p8.2
 have there : (true && (decide ((0 : Int) ≤ k) && decide ((k : Int) < x.Ps.length))) = true := by
  rw [tQ (by omega),tQ (by omega)]; rfl
 have hi : idx (x.Ps.set k ⟨x.Ps[k].Up,x.Ps[k].Co,true,x.Ps[k].Hd⟩) (k : Int) = some ⟨x.Ps[k].Up,x.Ps[k].Co,true,x.Ps[k].Hd⟩ := by
  rw [zI (by simpa using hk)]; simp
 have hi' : idx (x.Ps.set k ⟨true,x.Ps[k].Co,true,x.Ps[k].Hd⟩) (k : Int) = some ⟨true,x.Ps[k].Co,true,x.Ps[k].Hd⟩ := by
  rw [zI (by simpa using hk)]; simp
 refine ⟨_,?_,?_,e3,e4,e5,rfl,rfl,bb,e6,e7,e8⟩
 ·unfold ZU
  rw [Yd n x (by omega),bQ,J1 n x k true hb (by omega),bQ,there]
  simp only [nQ,fQ,zI hk,bQ,Int.toNat_natCast,hu,hv,hi,hi',List.set_set,e1]
 ·unfold Zg
  rw [Qc n x (by omega),bQ,zAi n x k true h2 (by omega),bQ,there]
  simp only [QU,zB2,cQ,zI hk,bQ,Int.toNat_natCast,hu,hv,hi,hi',List.set_set,e2]
theorem zLY (n : Nat) (x : zA) (wx : x.wf) (hx : x.sz ≤ 1048576) (hn : 1048577 < n) (hb : zU n x = some true) : ∃ y : zA,zCD n x = some y ∧ zB1 n x = some y ∧ zU n y = some true ∧ y.wf ∧ y.sz ≤ x.sz ∧ y.Id = x.Id ∧ y.Ps = x.Ps ∧ (x.Tk < 1000000 → y.Tk = x.Tk + 1) ∧ ∃ b,QJ n y.Id y.Ps = some b ∧ (∀ u ∈ y.F,u.Sc = true ∨ ∀ j : Nat,j < y.Ps.length → zEp b j = false → u.Port ≠ j) ∧ y.F.Sublist (x.F.filterMap zDo) := by
 have hs : x.Name.size + x.Ps.length + x.F.length + x.V.sz = x.sz := rfl
 obtain ⟨b,h1,h2⟩ := Zw n x wx (by omega) (by omega)
 rw [hb] at h1
 obtain rfl := Option.some.inj h1
 obtain ⟨p1,p2,p3,p4,p5,p6,p7,p8,p9,p10,p11,p12,p13⟩ := qU n x (by omega) hb
 have hf := zCq n x.F (by omega) p6
 obtain ⟨fs,a1,a2,a3⟩ := zIU n x.F (by omega) (by omega) (fun v hv => by have := (hf.2.1 v hv).2.2.2.1; omega)
 rw [zC0 n x.F hf (by omega)] at a1
 obtain rfl := Option.some.inj a1
 obtain ⟨t,t1,t2,t3,t4⟩ := zHN n x.Tk p8.1 p8.2
 obtain ⟨zs,v,bb,e1,e2,e3,e4,e5,e6,e7,e8⟩ := zKx n x hn wx hx hb x.Ps rfl p13 wx.2.2.1 (x.F.filterMap zDo) a3 hf.age t t3 t4
 refine ⟨_,?_,?_,e3,e4,e5,rfl,rfl,fun hlt => ?_,bb,e6,e7,e8⟩
 ·unfold zCD
  simp only [Yd n x (show x.sz ≤ 268435456 by omega),hb,zC0 n x.F hf (show 12 < n by omega),t1,bQ,nQ,fQ,e1]
 ·unfold zB1
  simp only [Qc n x (show x.sz ≤ 268435456 by omega),h2,a2,t2,bQ,cQ,e2]
 ·unfold JZ at t1
  rw [dQ (by omega),fQ,wQ] at t1
  exact (Option.some.inj t1).symm
def zFU (n : Nat) (x : Net) (s : Say) : Prop := (0 ≤ s.Link ∧ s.Link < x.Ls.length) ∧ zo n s.V = some true
def zNH (n : Nat) (x : Net) : Prop := ∀ s ∈ x.Said,zFU n x s
theorem JX (n : Nat) (x : Net) (wx : x.wf) (h : Big x) (hn : 1048700 < n) : ∃ b,QH n x = some b ∧ Q9 n x = some b ∧ (b = true ↔ zGp n x ∧ zNH n x) := by
 have ⟨hl1,hl2,hl3,hl4⟩ := h
 obtain ⟨bB,eB,iB⟩ := zGg n x wx h hn
 have hsaid : ∃ bS : Bool,(∃ o,ZV n n x 0 = some o ∧ ZT n n x 0 = some o ∧ (o = .inl () ∧ bS = true ∨ o = .inr false ∧ bS = false)) ∧ (bS = true ↔ zNH n x) := by
  have step : ∀ m (k : Nat) (hk : k < x.Said.length),∃ b : Bool,ZV n (m + 1) x k = (bif b then ZV n m x ((k + 1 : Nat) : Int) else some (.inr false)) ∧ ZT n (m + 1) x k = (bif b then ZT n m x ((k + 1 : Nat) : Int) else some (.inr false)) ∧ (b = true ↔ zFU n x x.Said[k]) := fun m k hk => by
   obtain ⟨c,hc⟩ := zBQ n x.Said[k].V
   rw [ZV,ZT,zp hk,zI hk]
   simp only [cQ,bQ,ZD,zBf n _ _ (show x.Ls.length ≤ 1048600 by omega),zB2,hc,vQ k]
   by_cases hr : 0 ≤ x.Said[k].Link ∧ x.Said[k].Link < x.Ls.length
   ·rw [tQ hr]
    cases c with
    | false => exact ⟨false,rfl,rfl,⟨fun e => (by cases e),fun e => absurd (hc.symm.trans e.2) (by simp)⟩⟩
    | true => exact ⟨true,rfl,rfl,⟨fun _ => ⟨hr,hc⟩,fun _ => rfl⟩⟩
   ·rw [dQ hr]; exact ⟨false,rfl,rfl,⟨fun e => (by cases e),fun e => absurd e.1 hr⟩⟩
  have all : ∀ (m k : Nat),k ≤ x.Said.length → x.Said.length < m + k → ∃ o,ZV n m x k = some o ∧ ZT n m x k = some o ∧ ((o = .inl () ∧ ∀ j (hj : j < x.Said.length),k ≤ j → zFU n x x.Said[j]) ∨ (o = .inr false ∧ ∃ j,∃ hj : j < x.Said.length,¬ zFU n x x.Said[j])) := by
   intro m
   induction m with
   | zero => intro k h1 h2; omega
   | succ m ih =>
    intro k h1 h2
    by_cases hk : k < x.Said.length
    ·obtain ⟨b,e1,e2,e3⟩ := step m k hk
     rw [e1,e2]
     cases b with
     | true =>
      obtain ⟨o,f1,f2,f3⟩ := ih (k + 1) (by omega) (by omega)
      refine ⟨o,f1,f2,f3.imp (fun f => ⟨f.1,fun j hj hkj => ?_⟩) id⟩
      by_cases hjk : j = k
      ·subst hjk; exact e3.1 rfl
      ·exact f.2 j hj (by omega)
     | false => exact ⟨_,rfl,rfl,.inr ⟨rfl,k,hk,fun hc => (by have := e3.2 hc; cases this)⟩⟩
    ·have he : k = x.Said.length := by omega
     subst he
     rw [ZV,ZT,zf]
     exact ⟨_,rfl,rfl,.inl ⟨rfl,fun j hj hkj => by omega⟩⟩
  obtain ⟨o,e1,e2,e3⟩ := all n 0 (by omega) (by omega)
  rcases e3 with ⟨e3,e4⟩ | ⟨e3,j,hj,e4⟩
  ·refine ⟨true,⟨o,e1,e2,.inl ⟨e3,rfl⟩⟩,⟨fun _ s hs => ?_,fun _ => rfl⟩⟩
   obtain ⟨j,hj,rfl⟩ := List.getElem_of_mem hs
   exact e4 j hj (by omega)
  ·exact ⟨false,⟨o,e1,e2,.inr ⟨e3,rfl⟩⟩,⟨fun e => (by cases e),fun hc => absurd (hc _ (List.getElem_mem hj)) e4⟩⟩
 obtain ⟨bS,⟨oS,s1,s2,s3⟩,iS⟩ := hsaid
 have s1' : ZV n n x 0 = some oS := s1
 have s2' : ZT n n x 0 = some oS := s2
 have l4 := YD (L := fun m k => ZG n m x k) (N := x.Ls.length) (P := fun k => ∀ hk : k < x.Ls.length,LOk x x.Ls[k] ∧ qO (qZ x.Ls[k].A x.Ls[k].P) x.Ls = 1 ∧ qO (qZ x.Ls[k].B x.Ls[k].Q) x.Ls = 1) (fun m k hk => zHb n x h hn m k hk) (fun m => ⟨(),by simp only [ZG]; rw [zf]; rfl⟩) n 0 (by omega) (by omega)
 have l2 := YD (L := fun m k => qn n m x k) (N := x.Ls.length) (P := fun k => ∀ hk : k < x.Ls.length,k < 9 ∧ LOk x x.Ls[k] ∧ (x.Ls.take k).any (qM x.Ls[k].A x.Ls[k].P) = false ∧ (x.Ls.take k).any (qM x.Ls[k].B x.Ls[k].Q) = false) (fun m k hk => zGZ n x h hn m k hk) (fun m => ⟨(),by simp only [qn]; rw [zf]; rfl⟩) n 0 (by omega) (by omega)
 have lB := YD (L := fun m k => qX n m x k) (N := x.Bs.length) (P := BOk n x) (fun m k hk => zHW n x wx h hn m k hk) (fun m => ⟨(),by simp only [qX]; rw [zf]; rfl⟩) n 0 (by omega) (by omega)
 have hiff : (x.Ls.length ≤ 9 ∧ ∀ j,0 ≤ j → j < x.Ls.length → ∀ hk : j < x.Ls.length,LOk x x.Ls[j] ∧ qO (qZ x.Ls[j].A x.Ls[j].P) x.Ls = 1 ∧ qO (qZ x.Ls[j].B x.Ls[j].Q) x.Ls = 1) ↔
   (∀ j,0 ≤ j → j < x.Ls.length → ∀ hk : j < x.Ls.length,j < 9 ∧ LOk x x.Ls[j] ∧ (x.Ls.take j).any (qM x.Ls[j].A x.Ls[j].P) = false ∧ (x.Ls.take j).any (qM x.Ls[j].B x.Ls[j].Q) = false) := by
  constructor
  ·rintro ⟨h9,hc⟩ j _ hj hj'
   have hne : ∀ l ∈ x.Ls,l.A ≠ l.B := fun l hl => by
    obtain ⟨i,hi,rfl⟩ := List.getElem_of_mem hl
    exact (hc i (by omega) hi hi).1.1
   exact ⟨by omega,(hc j (by omega) hj hj).1,(zJd x.Ls hne).1 (fun k hk => (hc k (by omega) hk hk).2) j hj⟩
  ·intro hc
   have hne : ∀ l ∈ x.Ls,l.A ≠ l.B := fun l hl => by
    obtain ⟨i,hi,rfl⟩ := List.getElem_of_mem hl
    exact (hc i (by omega) hi hi).2.1.1
   refine ⟨?_,fun j _ hj _ => ⟨(hc j (by omega) hj hj).2.1,(zJd x.Ls hne).2 (fun k hk => (hc k (by omega) hk hk).2.2) j hj⟩⟩
   by_cases h0 : x.Ls.length = 0
   ·omega
   ·have := (hc (x.Ls.length - 1) (by omega) (by omega) (by omega)).1
    omega
 have hS : ∀ (bb : Bool),(bif decide ((x.Said.length : Int) > 40) then (some false : Option Bool) else some bb) = some (decide (x.Said.length ≤ 40) && bb) := fun bb => by
  by_cases h40 : x.Said.length ≤ 40
  ·rw [dQ (by omega),tQ h40]; cases bb <;> rfl
  ·rw [tQ (by omega),dQ h40]; rfl
 have hn6 : (decide ((1 : Int) ≤ (x.Bs.length : Int)) && decide ((x.Bs.length : Int) ≤ 6)) = decide (1 ≤ x.Bs.length ∧ x.Bs.length ≤ 6) := by
  by_cases h6 : 1 ≤ x.Bs.length ∧ x.Bs.length ≤ 6
  ·rw [tQ h6,tQ (by omega),tQ (by omega)]; rfl
  ·rw [dQ h6]; simp only [Bool.and_eq_false_iff,decide_eq_false_iff_not]; omega
 have hL : ∀ (b' : Bool),(bif decide ((x.Ls.length : Int) > 9) then (some false : Option Bool) else some b') = some (decide (x.Ls.length ≤ 9) && b') := fun b' => by
  by_cases h9 : x.Ls.length ≤ 9
  ·rw [dQ (by omega),tQ h9]; cases b' <;> rfl
  ·rw [tQ (by omega),dQ h9]; rfl
 have hN : ∀ (c b' : Bool),(bif !c then (some false : Option Bool) else some b') = some (c && b') := fun c b' => by cases c <;> rfl
 have hJ1 : Jm n x = some bS := by
  unfold Jm
  rw [s1']
  rcases s3 with ⟨rfl,rfl⟩ | ⟨rfl,rfl⟩ <;> rfl
 have hspec : ∃ b4 : Bool,QH n x = some (bB && (decide (x.Ls.length ≤ 9) && (decide (x.Said.length ≤ 40) && (b4 && bS)))) ∧ (b4 = true ↔ ∀ j,0 ≤ j → j < x.Ls.length → ∀ hk : j < x.Ls.length,LOk x x.Ls[j] ∧ qO (qZ x.Ls[j].A x.Ls[j].P) x.Ls = 1 ∧ qO (qZ x.Ls[j].B x.Ls[j].Q) x.Ls = 1) := by
  unfold QH
  rw [eB,bQ]
  rcases l4 with ⟨a,e,p⟩ | ⟨e,p⟩
  ·rw [show ZG n n x 0 = _ from e]
   refine ⟨true,?_,⟨fun _ => p,fun _ => rfl⟩⟩
   simp only [bQ,hJ1,hS,hL,hN,Bool.true_and]
  ·rw [show ZG n n x 0 = _ from e]
   refine ⟨false,?_,⟨fun hc => (by cases hc),fun hc => absurd hc p⟩⟩
   simp only [bQ,hS,hL,hN,Bool.false_and]
 have hlk : ∃ b2 : Bool,zAx n x = some b2 ∧ (b2 = true ↔ (∀ j,0 ≤ j → j < x.Ls.length → ∀ hk : j < x.Ls.length,j < 9 ∧ LOk x x.Ls[j] ∧ (x.Ls.take j).any (qM x.Ls[j].A x.Ls[j].P) = false ∧ (x.Ls.take j).any (qM x.Ls[j].B x.Ls[j].Q) = false)) := by
  unfold zAx
  rcases l2 with ⟨a,e,p⟩ | ⟨e,p⟩
  ·rw [show qn n n x 0 = _ from e]; exact ⟨true,rfl,⟨fun _ => p,fun _ => rfl⟩⟩
  ·rw [show qn n n x 0 = _ from e]; exact ⟨false,rfl,⟨fun hc => (by cases hc),fun hc => absurd hc p⟩⟩
 obtain ⟨b2,e2,i2⟩ := hlk
 have hJ2 : Jk n x = some (bS && b2) := by
  unfold Jk
  rw [s2']
  rcases s3 with ⟨rfl,rfl⟩ | ⟨rfl,rfl⟩
  ·simp only [bQ,zAs,e2,Bool.true_and]
  ·rfl
 have himpl : ∃ bb : Bool,Q9 n x = some (decide (1 ≤ x.Bs.length ∧ x.Bs.length ≤ 6) && (decide (x.Said.length ≤ 40) && (bb && (bS && b2)))) ∧ (bb = true ↔ ∀ j,0 ≤ j → j < x.Bs.length → BOk n x j) := by
  unfold Q9
  rw [ZD,zP,bQ,hn6]
  rcases lB with ⟨a,e,p⟩ | ⟨e,p⟩
  ·rw [show qX n n x 0 = _ from e]
   refine ⟨true,?_,⟨fun _ => p,fun _ => rfl⟩⟩
   simp only [bQ,hJ2,hS,hN,Bool.true_and]
  ·rw [show qX n n x 0 = _ from e]
   refine ⟨false,?_,⟨fun hc => (by cases hc),fun hc => absurd hc p⟩⟩
   simp only [bQ,hS,hN,Bool.false_and]
 obtain ⟨b4,e4,i4⟩ := hspec
 obtain ⟨bb,eb,ib⟩ := himpl
 have heq : (bB && (decide (x.Ls.length ≤ 9) && (decide (x.Said.length ≤ 40) && (b4 && bS)))) = (decide (1 ≤ x.Bs.length ∧ x.Bs.length ≤ 6) && (decide (x.Said.length ≤ 40) && (bb && (bS && b2)))) := by
  rw [Bool.eq_iff_iff]
  simp only [Bool.and_eq_true,decide_eq_true_eq,iB,i4,ib,i2]
  constructor
  ·rintro ⟨⟨h1,h2⟩,h3,h4,h5,h6⟩
   exact ⟨h2,h4,fun j _ hj => h1 j hj,h6,hiff.1 ⟨h3,h5⟩⟩
  ·rintro ⟨h2,h4,h1,h6,h7⟩
   obtain ⟨h3,h5⟩ := hiff.2 h7
   exact ⟨⟨fun k hk => h1 k (by omega) hk,h2⟩,h3,h4,h5,h6⟩
 refine ⟨_,e4,by rw [heq]; exact eb,⟨fun hc => ?_,fun ⟨⟨h1,h2,h3,h4,h5⟩,h6⟩ => ?_⟩⟩
 ·simp only [Bool.and_eq_true,decide_eq_true_eq,iB,i4,iS] at hc
  obtain ⟨⟨h1,h2⟩,h3,h4,h5,h6⟩ := hc
  exact ⟨⟨h1,h2,h3,h4,fun k hk => h5 k (by omega) hk hk⟩,h6⟩
 ·simp only [Bool.and_eq_true,decide_eq_true_eq,iB,i4,iS]
  exact ⟨⟨h1,h2⟩,h3,h4,fun j _ hj hk => h5 j hk,h6⟩
theorem zHQ (n : Nat) (v : Vec) : zo n v = some true ↔ (1 ≤ v.Root ∧ v.Root ≤ 99) ∧ (0 ≤ v.Co ∧ v.Co ≤ 100000) ∧ (0 ≤ v.Hops ∧ v.Hops ≤ 10) ∧ (1 ≤ v.Bridge ∧ v.Bridge ≤ 99) ∧ (0 ≤ v.Port ∧ v.Port ≤ 7) := by
 have two : ∀ {a b c : Int},(decide (a ≤ b) && decide (b ≤ c)) = true ↔ a ≤ b ∧ b ≤ c := fun {a b c} => by rw [Bool.and_eq_true,decide_eq_true_eq,decide_eq_true_eq]
 unfold zo
 simp only [zP,bQ]
 constructor
 ·intro h
  obtain ⟨h1,h⟩ := zBX h
  obtain ⟨h2,h⟩ := zBX h
  obtain ⟨h3,h⟩ := zBX h
  obtain ⟨h4,h⟩ := zBX h
  have h5 := Option.some.inj h
  exact ⟨two.1 h1,two.1 h2,two.1 h3,two.1 h4,two.1 h5⟩
 ·rintro ⟨h1,h2,h3,h4,h5⟩
  rw [two.2 h1,two.2 h2,two.2 h3,two.2 h4,two.2 h5]
  rfl
theorem zJH (n : Nat) (v w : Vec) (c : Int) (h : YQ n v c = some (w,true)) : zo n w = some true := by
 unfold YQ at h
 obtain ⟨b1,h1,h⟩ := bind_some h
 cases b1 with
 | false => cases h
 | true =>
  obtain ⟨b2,h2,h⟩ := bind_some h
  cases b2 with
  | false => cases h
  | true =>
   obtain ⟨b3,h3,h⟩ := bind_some h
   cases b3 with
   | false => cases h
   | true => cases h; exact h3
def zOP (a b c : Int) : Prop := (1 ≤ a ∧ a ≤ 99) ∧ (0 ≤ b ∧ b ≤ 100000) ∧ (0 ≤ c ∧ c ≤ 10)
theorem zDc (n : Nat) (x0 : Int) (x1 : List Pt) : ∀ (m : Nat) (y1 y2 y3 y4 y5 y6 y7 y8 y9 y10 : Int) (o : (Int × Int × Int × Int) ⊕ (Vec × Int)),zOP y8 y9 y10 → qE n m x0 x1 y1 y2 y3 y4 y5 y6 y7 y8 y9 y10 = some o → ∃ z2 z8 z9 z10,o = .inl (z2,z8,z9,z10) ∧ zOP z8 z9 z10
 | 0,y1,y2,y3,y4,y5,y6,y7,y8,y9,y10,o,hr,e => by cases e
 | m + 1,y1,y2,y3,y4,y5,y6,y7,y8,y9,y10,o,hr,e => by
  have ih := zDc n x0 x1 m
  rw [qE] at e
  cases hl : decide (y1 < (x1.length : Int)) with
  | false => rw [hl] at e; cases e; exact ⟨_,_,_,_,rfl,hr⟩
  | true =>
   rw [hl,cQ] at e
   obtain ⟨v,_,e⟩ := bind_some e
   cases hu : (!v.Up) with
   | true => rw [hu] at e; exact ih _ _ _ _ _ _ _ _ _ _ _ hr e
   | false =>
    rw [hu,fQ] at e
    obtain ⟨v1,_,e⟩ := bind_some e
    cases hh : (!v1.Has) with
    | true => rw [hh] at e; exact ih _ _ _ _ _ _ _ _ _ _ _ hr e
    | false =>
     rw [hh,fQ] at e
     obtain ⟨v2,_,e⟩ := bind_some e
     obtain ⟨v3,_,e⟩ := bind_some e
     obtain ⟨⟨w,ok⟩,hw,e⟩ := bind_some e
     simp only at e
     cases ok with
     | false => exact ih _ _ _ _ _ _ _ _ _ _ _ hr e
     | true =>
      have hv := (zHQ n w).1 (zJH n _ _ _ hw)
      have hr' : zOP w.Root w.Co w.Hops := ⟨hv.1,hv.2.1,hv.2.2.1⟩
      rw [cQ] at e
      cases hd : decide (w.Root < x0) with
      | false => rw [hd] at e; exact ih _ _ _ _ _ _ _ _ _ _ _ hr e
      | true =>
       rw [hd,cQ] at e
       cases hd2 : decide (y2 < 0) with
       | true => rw [hd2] at e; exact ih _ _ _ _ _ _ _ _ _ _ _ hr' e
       | false =>
        rw [hd2,fQ] at e
        obtain ⟨c,_,e⟩ := bind_some e
        cases c with
        | true => exact ih _ _ _ _ _ _ _ _ _ _ _ hr' e
        | false => exact ih _ _ _ _ _ _ _ _ _ _ _ hr e
theorem zJ5 (n : Nat) (id : Int) (l : List Pt) (p : Int) (h0 : 1 ≤ id) (h1 : id ≤ 99) (hl : l.length ≤ 1048576) (hn : l.length < n) (p0 : 0 ≤ p) (p7 : p ≤ 7) : ∃ v,qi n id l p = some v ∧ zo n v = some true ∧ v.wf := by
 obtain ⟨⟨v,q⟩,e⟩ := zCM n id l hl hn
 have e' := e
 unfold Qi at e'
 obtain ⟨o,ho,e'⟩ := bind_some e'
 obtain ⟨z2,z8,z9,z10,rfl,hr⟩ := zDc n id l n _ _ _ _ _ _ _ _ _ _ o ⟨⟨h0,h1⟩,⟨by omega,by omega⟩,⟨by omega,by omega⟩⟩ ho
 cases e'
 have hok : zo n (⟨z8,z9,z10,id,p⟩ : Vec) = some true := (zHQ n _).2 ⟨hr.1,hr.2.1,hr.2.2,⟨h0,h1⟩,⟨p0,p7⟩⟩
 refine ⟨⟨z8,z9,z10,id,p⟩,?_,hok,zCE n _ hok⟩
 unfold qi
 rw [e]
 rfl
theorem zHE (n : Nat) (x : zA) (hx : x.sz ≤ 1048576) (h : zU n x = some true) : x.sz ≤ 40 := by
 have hs : x.Name.size + x.Ps.length + x.F.length + x.V.sz = x.sz := rfl
 have hs2 : x.V.Rows.length + x.V.Pv.length = x.V.sz := rfl
 obtain ⟨p1,p2,p3,p4,p5,p6,p7,_⟩ := qU n x (by omega) h
 have h1 := (zCq n x.F (by omega) p6).1
 have h2 := zFg n x.V _ p7
 omega
def qN (n : Nat) (x : Net) : Prop := x.wf ∧ Big x ∧ zGp n x ∧ zNH n x
theorem qN.ok {n : Nat} {x : Net} (hn : 1048700 < n) (h : qN n x) : QH n x = some true ∧ Q9 n x = some true := by
 obtain ⟨b,e1,e2,e3⟩ := JX n x h.1 h.2.1 hn
 rw [e3.2 ⟨h.2.2.1,h.2.2.2⟩] at e1 e2
 exact ⟨e1,e2⟩
theorem Big.of {x : Net} (h : x.sz ≤ 1048576) : Big x := by
 have hs : (x.Bs.length + Qo zA.sz x.Bs) + x.Ls.length + x.Said.length = x.sz := rfl
 exact ⟨by omega,fun a ha => by have := zBx (sz := zA.sz) ha; omega,by omega,by omega⟩
theorem qN.of {n : Nat} {x : Net} (hn : 1048700 < n) (wx : x.wf) (h : Big x) (e : QH n x = some true) : qN n x := by
 obtain ⟨b,e1,_,e3⟩ := JX n x wx h hn
 rw [e] at e1
 have := e3.1 (Option.some.inj e1).symm
 exact ⟨wx,h,this.1,this.2⟩
theorem zN5 (n : Nat) (x : Net) (wx : x.wf) (h : Big x) (hn : 1048700 < n) : ∃ b,QH n x = some b ∧ Q9 n x = some b ∧ (b = true → zGp n x) ∧ (x.Said = [] → zGp n x → b = true) := by
 obtain ⟨b,e1,e2,e3⟩ := JX n x wx h hn
 exact ⟨b,e1,e2,fun hb => (e3.1 hb).1,fun hs hc => e3.2 ⟨hc,fun s hs' => by rw [hs] at hs'; cases hs'⟩⟩
theorem zJE (n : Nat) (x : Net) (wx : x.wf) (h : x.sz ≤ 1048576) (hn : 1048700 < n) : ∃ b,QH n x = some b ∧ Q9 n x = some b ∧ (b = true → zGp n x) := by
 obtain ⟨b,e1,e2,e3⟩ := JX n x wx (Big.of h) hn
 exact ⟨b,e1,e2,fun hb => (e3.1 hb).1⟩
theorem zFf (n : Nat) (x : Net) (wx : x.wf) (hx : x.sz ≤ 1048576) (hn : 1048700 < n) : ∃ y : Net,JF n x = some y ∧ JC n x = some y ∧ y.sz ≤ x.sz ∧ y.wf := by
 have hs : (x.Bs.length + Qo zA.sz x.Bs) + x.Ls.length + x.Said.length = x.sz := rfl
 obtain ⟨b,h1,h2,_⟩ := zJE n x wx hx (by omega)
 unfold JF JC
 rw [Jb n x (by omega) (by omega),JV n x (by omega) (by omega),h1,h2]
 cases b with
 | false => exact ⟨x,rfl,rfl,Nat.le_refl _,wx⟩
 | true =>
  obtain ⟨zs,⟨b1,b2,b3⟩,r1,r2⟩ := zBp n x wx hx (by omega) n 0 x.Bs (HB.self wx) (by omega) (by omega)
  simp only [bQ,nQ,fQ]
  rw [show Qk n n x 0 x.Bs x.Ls [] = _ from r1,show Qh n n x 0 x.Bs x.Ls [] = _ from r2]
  refine ⟨⟨zs,x.Ls,[]⟩,rfl,rfl,?_,⟨by rw [b1]; exact wx.1.1,b2⟩,wx.2.1,⟨by simp,by simp⟩,trivial⟩
  show (zs.length + Qo zA.sz zs) + x.Ls.length + ([] : List Say).length ≤ x.sz
  simp only [List.length_nil]
  omega
theorem zDf (n : Nat) (z : Int) (s : Nat) (hs : s ≤ 1048576) (hn : 1048700 < n) : ∀ (m k : Nat) (y : Net),y.wf → y.sz ≤ s → k ≤ 30 → 30 < m + k → ∃ w : Net,w.wf ∧ w.sz ≤ s ∧ Q7 n m z k y.Bs y.Ls y.Said = some (.inl (w.Bs,w.Ls,w.Said)) ∧ Q1 n m z k y.Bs y.Ls y.Said = some (.inl (w.Bs,w.Ls,w.Said))
 | 0,k,y,wy,hy,h1,h2 => by omega
 | m + 1,k,y,wy,hy,h1,h2 => by
  rw [Q7,Q1]
  by_cases hk : (k : Int) < z ∧ (k : Int) < 30
  ·have hi : (k : Int) < (if (if 30 < z then 30 else z) > 0 then (if 30 < z then 30 else z) else 0) := by split <;> split at * <;> omega
   obtain ⟨w,e1,e2,e3,e4⟩ := zFf n y wy (by omega) hn
   obtain ⟨v,f1,f2,f3,f4⟩ := zDf n z s hs hn m (k + 1) w e4 (by omega) (by omega) (by omega)
   refine ⟨v,f1,f2,?_,?_⟩
   ·simp only [tQ hk.1,tQ hk.2,cQ,e1,bQ,vQ k,f3]
   ·simp only [tQ hi,cQ,e2,bQ,vQ k,f4]
  ·have hi : ¬ (k : Int) < (if (if 30 < z then 30 else z) > 0 then (if 30 < z then 30 else z) else 0) := by split <;> split at * <;> omega
   refine ⟨y,wy,hy,?_,?_⟩
   ·by_cases h : (k : Int) < z
    ·rw [tQ h,dQ (by omega)]; rfl
    ·rw [dQ h]; rfl
   ·rw [dQ hi]; rfl
theorem zIV (n : Nat) (x : Net) (z : Int) (wx : x.wf) (hx : x.sz ≤ 1048576) (hn : 1048700 < n) : ∃ y : Net,zAS n x z = some y ∧ zAJ n x z = some y ∧ y.sz ≤ x.sz ∧ y.wf := by
 obtain ⟨w,f1,f2,f3,f4⟩ := zDf n z x.sz hx hn n 0 x wx (Nat.le_refl _) (by omega) (by omega)
 unfold zAS zAJ
 rw [Jb n x (by omega) (by omega),JV n x (by omega) (by omega),bQ,bQ,show Q7 n n z 0 x.Bs x.Ls x.Said = _ from f3,show Q1 n n z 0 x.Bs x.Ls x.Said = _ from f4]
 exact ⟨w,rfl,rfl,f2,f1⟩
theorem qN.br {n : Nat} {x : Net} (h : qN n x) {i : Nat} (hi : i < x.Bs.length) : zU n x.Bs[i] = some true ∧ x.Bs[i].wf ∧ x.Bs[i].sz ≤ 40 := by
 have hok := (h.2.2.1.1 i hi hi).1
 exact ⟨hok,h.1.1.2 _ (List.getElem_mem hi),zHE n _ (h.2.1.2.1 _ (List.getElem_mem hi)) hok⟩
theorem zJP {α : Type} {sz : α → Nat} {c : Nat} : ∀ (xs : List α),(∀ v ∈ xs,sz v ≤ c) → Qo sz xs ≤ c * xs.length
 | [],_ => Nat.zero_le _
 | x :: xs,h => by
  have h1 := h x (by simp)
  have h2 := zJP xs fun v hv => h v (by simp [hv])
  simp only [Qo,List.length_cons,Nat.mul_succ]
  omega
theorem qN.sz {n : Nat} {x : Net} (h : qN n x) : x.sz ≤ 400 := by
 have hs : (x.Bs.length + Qo zA.sz x.Bs) + x.Ls.length + x.Said.length = x.sz := rfl
 have h1 := zJP (sz := zA.sz) (c := 40) x.Bs fun v hv => by
  obtain ⟨i,hi,rfl⟩ := List.getElem_of_mem hv
  exact (h.br hi).2.2
 have h2 := h.2.2.1.2.1
 have h3 := h.2.2.1.2.2.1
 have h4 := h.2.2.1.2.2.2.1
 omega
theorem zDF {α : Type} {xs : List α} {i : Nat} (hi : i < xs.length) (v : α) (b : Int) : idx (xs.set i v) b = if b = (i : Int) then some v else idx xs b := by
 by_cases hb : b = (i : Int)
 ·subst hb
  rw [if_pos rfl,zI (by simpa using hi)]
  simp
 ·rw [if_neg hb]
  unfold idx
  by_cases h0 : 0 ≤ b
  ·rw [if_pos h0,if_pos h0,List.getElem?_set_ne (by omega)]
  ·rw [if_neg h0,if_neg h0]
theorem zG9 {bs : List zA} {ls : List Link} {ss ss' : List Say} {i : Nat} (hi : i < bs.length) (v : zA) (b p : Int) : ZN ⟨bs.set i v,ls,ss⟩ b p = if b = (i : Int) then idx v.Ps p else ZN ⟨bs,ls,ss'⟩ b p := by
 unfold ZN
 rw [zDF hi]
 split <;> rfl
def zCO (x : Net) (b p : Int) : Option Bool := (ZN x b p).map (·.Up)
theorem zKZ {n : Nat} {x : Net} (hx : qN n x) (bs : List zA) (ss : List Say) (hb : bs.length = x.Bs.length)
  (each : ∀ i (hi : i < x.Bs.length) (hi' : i < bs.length),zU n bs[i] = some true ∧ bs[i].wf ∧ bs[i].sz ≤ 1048576 ∧ bs[i].Id = x.Bs[i].Id ∧ bs[i].Ps.length = x.Bs[i].Ps.length ∧ ∀ p (hp : p < bs[i].Ps.length),bs[i].Ps[p].Has = true → x.Ls.any (qM i p) = true)
  (up : ∀ l ∈ x.Ls,zCO ⟨bs,x.Ls,ss⟩ l.A l.P = zCO ⟨bs,x.Ls,ss⟩ l.B l.Q) (s40 : ss.length ≤ 40) (said : ∀ s ∈ ss,zFU n x s ∧ s.wf) : qN n ⟨bs,x.Ls,ss⟩ := by
 obtain ⟨wx,⟨g1,g2,g3,g4⟩,⟨c1,c2,c3,c4,c5⟩,c6⟩ := hx
 have hm : maxLen = 9223372036854775807 := by decide
 refine ⟨⟨⟨by simp only; omega,fun v hv => ?_⟩,wx.2.1,⟨by simp only; omega,fun s hs => (said s hs).2⟩,trivial⟩,⟨by simp only; omega,fun v hv => ?_,g3,by simp only; omega⟩,⟨fun k hk hk' => ?_,by simp only; omega,c3,s40,fun k hk => ?_⟩,fun s hs => (said s hs).1⟩
 ·obtain ⟨i,hi,rfl⟩ := List.getElem_of_mem hv
  have hi : i < bs.length := hi
  exact (each i (by omega) hi).2.1
 ·obtain ⟨i,hi,rfl⟩ := List.getElem_of_mem hv
  have hi : i < bs.length := hi
  exact (each i (by omega) hi).2.2.1
 ·have hk' : k < bs.length := hk'
  obtain ⟨e1,e2,e3,e4,e5,e6⟩ := each k (by omega) hk'
  refine ⟨e1,fun j hj => ?_,fun p hp hh => e6 p hp hh⟩
  have := (c1 k (by omega) (by omega)).2.1 j hj
  have f := (each j (by omega) (by omega)).2.2.2.1
  simp only at this ⊢
  rw [f,e4]; exact this
 ·obtain ⟨⟨d1,p,q,d2,d3,d4⟩,d5⟩ := c5 k hk
  have u := up x.Ls[k] (List.getElem_mem hk)
  have ex : ∀ {b p : Int} {v : Pt},ZN x b p = some v → ∃ w,ZN ⟨bs,x.Ls,ss⟩ b p = some w := fun {b p v} h => by
   obtain ⟨a,h1,h2⟩ := Yf h
   obtain ⟨i0,i1⟩ := Jp h1
   obtain ⟨i,rfl⟩ := Int.eq_ofNat_of_zero_le i0
   have hi : i < x.Bs.length := Int.ofNat_lt.1 i1
   rw [zI hi] at h1
   obtain rfl := Option.some.inj h1
   obtain ⟨j0,j1⟩ := Jp h2
   obtain ⟨j,rfl⟩ := Int.eq_ofNat_of_zero_le j0
   have := (each i hi (by omega)).2.2.2.2.1
   exact ⟨_,by unfold ZN; simp only; rw [zI (show i < bs.length by omega),bQ,zI (show j < bs[i].Ps.length by omega)]⟩
  obtain ⟨p',e1⟩ := ex d2
  obtain ⟨q',e2⟩ := ex d3
  refine ⟨⟨d1,p',q',e1,e2,?_⟩,d5⟩
  unfold zCO at u
  rw [e1,e2] at u
  exact Option.some.inj u
theorem qN.up {n : Nat} {x : Net} (hx : qN n x) : ∀ l ∈ x.Ls,zCO x l.A l.P = zCO x l.B l.Q := fun l hl => by
 obtain ⟨k,hk,rfl⟩ := List.getElem_of_mem hl
 obtain ⟨_,p,q,e1,e2,e3⟩ := (hx.2.2.1.2.2.2.2 k hk).1
 unfold zCO
 rw [e1,e2]
 simp [e3]
theorem qN.says {n : Nat} {x : Net} (hx : qN n x) : ∀ s ∈ x.Said,zFU n x s ∧ s.wf := fun s hs => ⟨hx.2.2.2 s hs,hx.1.2.2.1.2 s hs⟩
theorem qN.self {n : Nat} {x : Net} (hx : qN n x) : ∀ i (hi : i < x.Bs.length) (hi' : i < x.Bs.length),zU n x.Bs[i] = some true ∧ x.Bs[i].wf ∧ x.Bs[i].sz ≤ 1048576 ∧ x.Bs[i].Id = x.Bs[i].Id ∧ x.Bs[i].Ps.length = x.Bs[i].Ps.length ∧ ∀ p (hp : p < x.Bs[i].Ps.length),x.Bs[i].Ps[p].Has = true → x.Ls.any (qM i p) = true := fun i hi _ =>
 ⟨(hx.br hi).1,(hx.br hi).2.1,by have := (hx.br hi).2.2; omega,rfl,rfl,(hx.2.2.1.1 i hi hi).2.2⟩
theorem zLH {n : Nat} {x : Net} (hx : qN n x) (ss : List Say) (s40 : ss.length ≤ 40) (said : ∀ s ∈ ss,zFU n x s ∧ s.wf) : qN n ⟨x.Bs,x.Ls,ss⟩ :=
 zKZ hx x.Bs ss rfl hx.self (fun l hl => hx.up l hl) s40 said
theorem zI4 {n : Nat} {x : Net} (hx : qN n x) {i : Nat} (hi : i < x.Bs.length) (v : zA) (ok : zU n v = some true) (wv : v.wf) (sv : v.sz ≤ 1048576) (hid : v.Id = x.Bs[i].Id) (hl : v.Ps.length = x.Bs[i].Ps.length) (has : ∀ p (hp : p < v.Ps.length),v.Ps[p].Has = true → x.Ls.any (qM i p) = true) (hup : ∀ p : Int,(idx v.Ps p).map (·.Up) = (idx x.Bs[i].Ps p).map (·.Up))
  (ss : List Say) (s40 : ss.length ≤ 40) (said : ∀ s ∈ ss,zFU n x s ∧ s.wf) : qN n ⟨x.Bs.set i v,x.Ls,ss⟩ := by
 refine zKZ hx _ ss (by simp) (fun j hj hj' => ?_) (fun l hl => ?_) s40 said
 ·rw [List.getElem_set]
  by_cases h : i = j
  ·subst h
   simp only [if_true]
   exact ⟨ok,wv,sv,hid,hl,has⟩
  ·simp only [if_neg h]
   have := hx.self j hj hj
   exact ⟨this.1,this.2.1,this.2.2.1,trivial,trivial,this.2.2.2.2.2⟩
 ·have key : ∀ b p,zCO ⟨x.Bs.set i v,x.Ls,ss⟩ b p = zCO x b p := fun b p => by
   unfold zCO
   rw [zG9 hi v b p (ss' := x.Said)]
   split
   ·rename_i hb
    subst hb
    rw [hup p]
    unfold ZN
    rw [zI hi,bQ]
   ·rfl
  rw [key,key]
  exact hx.up l hl
theorem zHO (n : Nat) (x : Net) (b : Int) (p : Int) : JA n x b p = (idx x.Bs b).bind fun v => (qi n v.Id v.Ps p) := by
 unfold JA
 cases idx x.Bs b with
 | none => rfl
 | some v =>
  simp only [bQ,zDI]
  cases qi n v.Id v.Ps p <;> rfl
theorem zFl (n : Nat) (x : Net) {k : Nat} (hk : k < x.Ls.length) (back : Bool) : YI n x k back = bif back then (idx x.Bs x.Ls[k].B).bind fun v => qi n v.Id v.Ps x.Ls[k].Q else (idx x.Bs x.Ls[k].A).bind fun v => qi n v.Id v.Ps x.Ls[k].P := by
 unfold YI
 rw [zI hk,bQ]
 cases back with
 | true =>
  simp only [cQ]
  cases idx x.Bs x.Ls[k].B with
  | none => rfl
  | some v => simp only [bQ]; cases qi n v.Id v.Ps x.Ls[k].Q <;> rfl
 | false =>
  simp only [fQ]
  cases idx x.Bs x.Ls[k].A with
  | none => rfl
  | some v => simp only [bQ]; cases qi n v.Id v.Ps x.Ls[k].P <;> rfl
theorem zGz {α : Type} {xs : List α} {b : Int} {v : α} (h : idx xs b = some v) : ∃ i : Nat,b = i ∧ ∃ hi : i < xs.length,xs[i] = v := by
 obtain ⟨i0,i1⟩ := Jp h
 obtain ⟨i,rfl⟩ := Int.eq_ofNat_of_zero_le i0
 have hi : i < xs.length := Int.ofNat_lt.1 i1
 rw [zI hi] at h
 exact ⟨i,rfl,hi,Option.some.inj h⟩
theorem qN.ends {n : Nat} {x : Net} (hx : qN n x) {k : Nat} (hk : k < x.Ls.length) : ∃ (a p b q : Nat) (ha : a < x.Bs.length) (hb : b < x.Bs.length),x.Ls[k].A = a ∧ x.Ls[k].P = p ∧ x.Ls[k].B = b ∧ x.Ls[k].Q = q ∧ a ≠ b ∧ p < x.Bs[a].Ps.length ∧ q < x.Bs[b].Ps.length ∧ p < 6 ∧ q < 6 := by
 obtain ⟨hne,p,q,e1,e2,_⟩ := (hx.2.2.1.2.2.2.2 k hk).1
 obtain ⟨v,h1,h2⟩ := Yf e1
 obtain ⟨w,h3,h4⟩ := Yf e2
 obtain ⟨a,ea,ha,rfl⟩ := zGz h1
 obtain ⟨p',ep,hp,_⟩ := zGz h2
 obtain ⟨b,eb,hb,rfl⟩ := zGz h3
 obtain ⟨q',eq,hq,_⟩ := zGz h4
 have := (qU n _ (by have := (hx.br ha).2.2; have hs : x.Bs[a].Name.size + x.Bs[a].Ps.length + x.Bs[a].F.length + x.Bs[a].V.sz = x.Bs[a].sz := rfl; omega) (hx.br ha).1).2.1
 have := (qU n _ (by have := (hx.br hb).2.2; have hs : x.Bs[b].Name.size + x.Bs[b].Ps.length + x.Bs[b].F.length + x.Bs[b].V.sz = x.Bs[b].sz := rfl; omega) (hx.br hb).1).2.1
 exact ⟨a,p',b,q',ha,hb,ea,ep,eb,eq,fun h => hne (by rw [ea,eb,h]),hp,hq,by omega,by omega⟩
theorem qN.say {n : Nat} {x : Net} (hn : 1048700 < n) (hx : qN n x) {i : Nat} (hi : i < x.Bs.length) (p : Nat) (hp : p < 6) : ∃ v,qi n x.Bs[i].Id x.Bs[i].Ps p = some v ∧ zo n v = some true ∧ v.wf := by
 have hs : x.Bs[i].Name.size + x.Bs[i].Ps.length + x.Bs[i].F.length + x.Bs[i].V.sz = x.Bs[i].sz := rfl
 have h40 := (hx.br hi).2.2
 obtain ⟨p1,p2,p3,p4,_⟩ := qU n _ (by omega) (hx.br hi).1
 exact zJ5 n _ _ p p3 p4 (by omega) (by omega) (by omega) (by omega)
theorem qN.link {n : Nat} {x : Net} (hx : qN n x) (ss : List Say) (k : Int) : ∃ b,ZW n ⟨x.Bs,x.Ls,ss⟩ k = some b ∧ Z9 n ⟨x.Bs,x.Ls,ss⟩ k = some b := by
 have h := hx.sz
 obtain ⟨b,e1,e2⟩ := zEz n x k hx.1 (by omega)
 exact ⟨b,e1,e2⟩
theorem zJy {n : Nat} (hn : 1048700 < n) {x : Net} (hx : qN n x) (b : Int) : ∀ (m k : Nat) (ss : List Say),k ≤ x.Ls.length → x.Ls.length < m + k → ss.length ≤ 40 → (∀ s ∈ ss,zFU n x s ∧ s.wf) → ∃ zs,qW n m x b k ss = some (.inl zs) ∧ qg n m x b k ss = some (.inl zs) ∧ zs.length ≤ 40 ∧ ∀ s ∈ zs,zFU n x s ∧ s.wf
 | 0,k,ss,h1,h2,h3,h4 => by omega
 | m + 1,k,ss,h1,h2,h3,h4 => by
  rw [qW,qg]
  by_cases hk : k < x.Ls.length
  ·have h9 := hx.2.2.1.2.2.1
   have ih := fun ss h3 h4 => zJy hn hx b m (k + 1) ss (by omega) (by omega) h3 h4
   obtain ⟨u,u1,u2⟩ := hx.link ss k
   obtain ⟨a,p,c,q,ha,hc,ea,ep,ec,eq,hac,hp,hq,hp6,hq6⟩ := hx.ends hk
   rw [zp hk,cQ,cQ,zI hk,bQ,u1,u2,bQ,bQ,vQ k]
   cases u with
   | false => exact ih ss h3 h4
   | true =>
    simp only [nQ,fQ]
    by_cases h40 : (ss.length : Int) ≥ 40
    ·rw [tQ h40,cQ,cQ]; exact ih ss h3 h4
    ·rw [dQ h40,fQ,fQ,bQ]
     have hg : ∀ s : Say,decide (ss.length + [s].length ≤ 268435456) = true := fun s => tQ (by simp; omega)
     have one : ∀ (bk : Bool) (v : Vec),zo n v = some true → v.wf → ∀ s ∈ ss ++ [(⟨k,bk,v⟩ : Say)],zFU n x s ∧ s.wf := fun bk v hv wv s hs => by
      rcases List.mem_append.1 hs with hs | hs
      ·exact h4 s hs
      ·rw [List.mem_singleton] at hs
       subst hs
       exact ⟨⟨⟨by simp only; omega,by simp only; omega⟩,hv⟩,iQ (z := (k : Int)),wv.1,wv.2.1,wv.2.2.1,wv.2.2.2.1,wv.2.2.2.2.1,trivial⟩
     by_cases hA : x.Ls[k].A = b
     ·obtain ⟨v,v1,v2,v3⟩ := hx.say hn ha p hp6
      have hB : (x.Ls[k].B == b) = false := by
       rw [beq_eq_false_iff_ne]
       intro h
       rw [← hA,ea,ec] at h
       omega
      rw [show (x.Ls[k].A == b) = true from by simpa using hA,cQ,cQ,zFl n ⟨x.Bs,x.Ls,ss⟩ hk false,fQ,zHO]
      simp only [← hA,ea,ep,zI ha,bQ,v1,hg,cQ,QS,zI hk,hA,hB,fQ,vQ k]
      rw [ea] at hA
      have hB' : (x.Ls[k].B == (a : Int)) = false := by rw [beq_eq_false_iff_ne,ec]; omega
      simp only [hB',hA,hB,fQ,nQ]
      exact ih _ (by simp; omega) (one false v v2 v3)
     ·rw [show (x.Ls[k].A == b) = false from by simpa using hA,fQ,fQ]
      simp only [QS,zI hk,bQ,vQ k]
      by_cases hB : x.Ls[k].B = b
      ·obtain ⟨v,v1,v2,v3⟩ := hx.say hn hc q hq6
       rw [show (x.Ls[k].B == b) = true from by simpa using hB,cQ,cQ,zFl n ⟨x.Bs,x.Ls,ss⟩ hk true,cQ,zHO]
       simp only [← hB,ec,eq,zI hc,bQ,v1,hg,cQ]
       rw [ec] at hB
       rw [hB]
       exact ih _ (by simp; omega) (one true v v2 v3)
      ·rw [show (x.Ls[k].B == b) = false from by simpa using hB,fQ,fQ]
       exact ih ss h3 h4
  ·obtain rfl : k = x.Ls.length := by omega
   rw [zf]
   exact ⟨ss,rfl,rfl,h3,h4⟩
theorem zNf {n : Nat} (hn : 1048700 < n) {x : Net} (hx : qN n x) (b : Int) : ∃ y,J5 n x b = some y ∧ Jr n x b = some y ∧ qN n y ∧ y.Bs = x.Bs ∧ y.Ls = x.Ls := by
 have h9 := hx.2.2.1.2.2.1
 obtain ⟨zs,e1,e2,e3,e4⟩ := zJy hn hx b n 0 x.Said (by omega) (by omega) hx.2.2.1.2.2.2.1 hx.says
 refine ⟨⟨x.Bs,x.Ls,zs⟩,?_,?_,zLH hx zs e3 e4,rfl,rfl⟩
 ·unfold J5; rw [show qW n n x b 0 x.Said = _ from e1]; rfl
 ·unfold Jr; rw [show qg n n x b 0 x.Said = _ from e2]; rfl
theorem zNN (ps : List Pt) (k : Nat) (hk : k < ps.length) (c : Int) (h : Bool) (v : Vec) (p : Int) : (idx (ps.set k ⟨ps[k].Up,c,h,v⟩) p).map (·.Up) = (idx ps p).map (·.Up) := by
 rw [zDF hk]
 split
 ·rename_i e
  subst e
  rw [zI hk]; rfl
 ·rfl
theorem zLO {n : Nat} (hn : 1048700 < n) {x : Net} (hx : qN n x) {i p : Nat} (hi : i < x.Bs.length) (hp : p < x.Bs[i].Ps.length) (hup : x.Bs[i].Ps[p].Up = true) (hend : x.Ls.any (qM i p) = true) (v : Vec) (hv : zo n v = some true) : ∃ y,ZU n x.Bs[i] p v = some y ∧ Zg n x.Bs[i] p v = some y ∧ qN n ⟨x.Bs.set i y,x.Ls,x.Said⟩ ∧ y.Id = x.Bs[i].Id ∧ y.Ps = x.Bs[i].Ps.set p ⟨true,x.Bs[i].Ps[p].Co,true,v⟩ := by
 obtain ⟨b1,b2,b3⟩ := hx.br hi
 obtain ⟨y,e1,e2,e3,e4,e5,e6,e7,_⟩ := zJC n x.Bs[i] p v b2 (by omega) (by omega) b1 hp hup hv
 refine ⟨y,e1,e2,zI4 hx hi y e3 e4 (by omega) e6 (by rw [e7]; simp) (fun j hj hh => ?_) (fun j => ?_) x.Said hx.2.2.1.2.2.2.1 hx.says,e6,e7⟩
 ·by_cases hjp : p = j
  ·subst hjp; exact hend
  ·have hj' : j < x.Bs[i].Ps.length := by rw [e7] at hj; simpa using hj
   have hg : y.Ps[j] = x.Bs[i].Ps[j] := by
    simp only [e7]
    exact List.getElem_set_ne hjp _
   rw [hg] at hh
   exact (hx.2.2.1.1 i hi hi).2.2 j hj' hh
 ·rw [e7,← zNN x.Bs[i].Ps p hp x.Bs[i].Ps[p].Co true v j,hup]
theorem zOJ {n : Nat} (hn : 1048700 < n) {x : Net} (hx : qN n x) {i : Nat} (hi : i < x.Bs.length) : ∃ y,zCD n x.Bs[i] = some y ∧ zB1 n x.Bs[i] = some y ∧ qN n ⟨x.Bs.set i y,x.Ls,x.Said⟩ := by
 obtain ⟨b1,b2,b3⟩ := hx.br hi
 obtain ⟨y,e1,e2,e3,e4,e5,e6,e7,_⟩ := zLY n x.Bs[i] b2 (by omega) (by omega) b1
 refine ⟨y,e1,e2,zI4 hx hi y e3 e4 (by omega) e6 (by rw [e7]) (fun j hj hh => ?_) (fun j => by rw [e7]) x.Said hx.2.2.1.2.2.2.1 hx.says⟩
 have hj' : j < x.Bs[i].Ps.length := by rw [e7] at hj; exact hj
 have hg : y.Ps[j] = x.Bs[i].Ps[j] := by congr 1
 rw [hg] at hh
 exact (hx.2.2.1.1 i hi hi).2.2 j hj' hh
def zAH (ss : List Say) (i : Nat) : List Say := ss.take i ++ ss.drop (i + 1)
theorem zMv (ss : List Say) (i : Nat) (hi : i < ss.length) (h40 : ss.length ≤ 40) : (([] : List Say) ++ ((ss.drop ((0 : Int)).toNat).take (((i : Int)).toNat - ((0 : Int)).toNat))) ++ ((ss.drop ((((i + 1 : Nat) : Int) : Int)).toNat).take ((((ss.length : Int) : Int)).toNat - ((((i + 1 : Nat) : Int)) : Int).toNat)) = zAH ss i := by
 unfold zAH
 rw [List.nil_append,Int.toNat_natCast,Int.toNat_natCast,Int.toNat_natCast,show (0 : Int).toNat = 0 from rfl,Nat.sub_zero,List.drop_zero,show (ss.drop (i + 1)).take (ss.length - (i + 1)) = ss.drop (i + 1) from List.take_of_length_le (by rw [List.length_drop]; omega)]
theorem zOV {ss : List Say} {i : Nat} : ∀ s ∈ zAH ss i,s ∈ ss := fun s hs => by
 rcases List.mem_append.1 hs with h | h
 ·exact List.mem_of_mem_take h
 ·exact List.mem_of_mem_drop h
theorem zOU {ss : List Say} {i : Nat} (hi : i < ss.length) : (zAH ss i).length + 1 = ss.length := by
 unfold zAH
 rw [List.length_append,List.length_take,List.length_drop]
 omega
theorem zK3 (ss : List Say) (i : Nat) (hi : i < ss.length) (h40 : ss.length ≤ 40) :
  (decide ((0 : Int) ≤ 0) && (decide ((0 : Int) ≤ (i : Int)) && decide ((i : Int) ≤ (ss.length : Int)))) = true ∧
  (decide ((0 : Int) ≤ ((i + 1 : Nat) : Int)) && (decide (((i + 1 : Nat) : Int) ≤ (ss.length : Int)) && decide ((ss.length : Int) ≤ (ss.length : Int)))) = true ∧
  decide (([] : List Say).length + ((ss.drop ((0 : Int)).toNat).take (((i : Int)).toNat - ((0 : Int)).toNat)).length ≤ 268435456) = true ∧
  decide ((([] : List Say) ++ ((ss.drop ((0 : Int)).toNat).take (((i : Int)).toNat - ((0 : Int)).toNat))).length + ((ss.drop ((((i + 1 : Nat) : Int) : Int)).toNat).take ((((ss.length : Int) : Int)).toNat - ((((i + 1 : Nat) : Int)) : Int).toNat)).length ≤ 268435456) = true := by
 refine ⟨?_,?_,?_,?_⟩
 ·rw [Bool.and_eq_true,Bool.and_eq_true]
  exact ⟨rfl,tQ (by omega),tQ (by omega)⟩
 ·rw [Bool.and_eq_true,Bool.and_eq_true]
  exact ⟨tQ (by omega),tQ (by omega),tQ (by omega)⟩
 ·refine tQ ?_
  rw [List.length_take,List.length_drop,List.length_nil]
  omega
 ·refine tQ ?_
  rw [List.length_append,List.length_take,List.length_drop,List.length_take,List.length_drop,List.length_nil]
  omega
theorem zIZ (n : Nat) (x : Net) (z : Event) {i : Nat} (hi : i < x.Said.length) (h40 : x.Said.length ≤ 40) (he : z.At = i) : Jn n x z = bif z.Ki == 2 then (ZW n ⟨x.Bs,x.Ls,zAH x.Said i⟩ x.Said[i].Link).bind fun u => bif u then Qm n ⟨x.Bs,x.Ls,zAH x.Said i⟩ x.Said[i].Link x.Said[i].Back x.Said[i].V else some ⟨x.Bs,x.Ls,zAH x.Said i⟩ else some ⟨x.Bs,x.Ls,zAH x.Said i⟩ := by
 obtain ⟨c1,c2,c3,c4⟩ := zK3 x.Said i hi h40
 unfold Jn
 rw [he,vQ i,zI hi,bQ,c1,c2,c3,c4,zMv x.Said i hi h40]
 simp only [cQ]
 congr 1
 congr 1
 funext u
 cases u with
 | false => rfl
 | true => simp only [cQ]; cases Qm n ⟨x.Bs,x.Ls,zAH x.Said i⟩ x.Said[i].Link x.Said[i].Back x.Said[i].V <;> rfl
theorem zG0 (n : Nat) (x : Net) (b : Bool) {i : Nat} (hi : i < x.Said.length) (h40 : x.Said.length ≤ 40) : Yb n x i b = bif !b then some ⟨x.Bs,x.Ls,zAH x.Said i⟩ else (Z9 n ⟨x.Bs,x.Ls,zAH x.Said i⟩ x.Said[i].Link).bind fun u => bif !u then some ⟨x.Bs,x.Ls,zAH x.Said i⟩ else (idx x.Ls x.Said[i].Link).bind fun l => bif x.Said[i].Back then ZF n ⟨x.Bs,x.Ls,zAH x.Said i⟩ l.A l.P x.Said[i].V else ZF n ⟨x.Bs,x.Ls,zAH x.Said i⟩ l.B l.Q x.Said[i].V := by
 obtain ⟨c1,c2,c3,c4⟩ := zK3 x.Said i hi h40
 unfold Yb
 rw [vQ i,zI hi,bQ,c1,c2,c3,c4,zMv x.Said i hi h40]
 simp only [cQ]
 congr 1
 congr 1
 funext u
 congr 1
 congr 1
 funext l
 congr 1
 ·cases ZF n ⟨x.Bs,x.Ls,zAH x.Said i⟩ l.A l.P x.Said[i].V <;> rfl
 ·cases ZF n ⟨x.Bs,x.Ls,zAH x.Said i⟩ l.B l.Q x.Said[i].V <;> rfl
theorem zOI {n : Nat} (hn : 1048700 < n) {x : Net} (hx : qN n x) {i : Nat} (hi : i < x.Said.length) (z : Event) (he : z.At = i) : ∃ y,Jn n x z = some y ∧ Yb n x i (z.Ki == 2) = some y ∧ qN n y := by
 have h40 := hx.2.2.1.2.2.2.1
 rw [zIZ n x z hi h40 he,zG0 n x _ hi h40]
 have hc : qN n ⟨x.Bs,x.Ls,zAH x.Said i⟩ := zLH hx _ (by have := zOU hi; omega) fun s hs => hx.says s (zOV s hs)
 cases z.Ki == 2 with
 | false => exact ⟨_,rfl,rfl,hc⟩
 | true =>
  simp only [nQ,fQ,cQ]
  obtain ⟨⟨⟨l0,l1⟩,hv⟩,_⟩ := hx.says x.Said[i] (List.getElem_mem hi)
  obtain ⟨k,hk0⟩ := Int.eq_ofNat_of_zero_le l0
  have hk : k < x.Ls.length := by omega
  obtain ⟨u,u1,u2⟩ := hx.link (zAH x.Said i) x.Said[i].Link
  rw [u1,u2,bQ,bQ]
  cases u with
  | false => exact ⟨_,rfl,rfl,hc⟩
  | true =>
   obtain ⟨a,p,c,q,ha,hcc,ea,ep,ec,eq,hac,hp,hq,hp6,hq6⟩ := hx.ends hk
   obtain ⟨l,va,vb,pp,qq,g1,g2,g3,g4,g5,g6,g7⟩ := zE0 n _ _ u1
   rw [hk0] at g1 ⊢
   rw [show idx (⟨x.Bs,x.Ls,zAH x.Said i⟩ : Net).Ls (k : Int) = _ from zI hk] at g1
   obtain rfl := Option.some.inj g1
   simp only [ea,ep,ec,eq,zI ha,zI hcc] at g2 g3 g5 g6
   obtain rfl := Option.some.inj g2
   obtain rfl := Option.some.inj g5
   rw [zI hp] at g3
   rw [zI hq] at g6
   obtain rfl := Option.some.inj g3
   obtain rfl := Option.some.inj g6
   unfold Qm ZF
   simp only [nQ,fQ,cQ,zI hk,bQ,ea,ep,ec,eq,zI ha,zI hcc,Int.toNat_natCast]
   have hm : x.Ls[k] ∈ x.Ls := List.getElem_mem hk
   cases x.Said[i].Back with
   | true =>
    obtain ⟨y,e1,e2,e3,_⟩ := zLO hn hc ha hp g4 (List.any_eq_true.2 ⟨_,hm,YK.2 (.inl ⟨ea,ep⟩)⟩) _ hv
    simp only [cQ,show ZU n x.Bs[a] p x.Said[i].V = _ from e1,show Zg n x.Bs[a] p x.Said[i].V = _ from e2,bQ]
    exact ⟨_,rfl,rfl,e3⟩
   | false =>
    obtain ⟨y,e1,e2,e3,_⟩ := zLO hn hc hcc hq g7 (List.any_eq_true.2 ⟨_,hm,YK.2 (.inr ⟨ec,eq⟩)⟩) _ hv
    simp only [fQ,show ZU n x.Bs[c] q x.Said[i].V = _ from e1,show Zg n x.Bs[c] q x.Said[i].V = _ from e2,bQ]
    exact ⟨_,rfl,rfl,e3⟩
theorem zOr {bs : List zA} {ls : List Link} {ss : List Say} {a c : Nat} (ha : a < bs.length) (hc : c < bs.length) (hac : a ≠ c) (v w : zA) (b p : Int) : zCO ⟨(bs.set a v).set c w,ls,ss⟩ b p = if b = (c : Int) then (idx w.Ps p).map (·.Up) else if b = (a : Int) then (idx v.Ps p).map (·.Up) else zCO ⟨bs,ls,ss⟩ b p := by
 unfold zCO
 rw [zG9 (bs := bs.set a v) (ss' := ss) (by simpa using hc),zG9 (ss' := ss) ha]
 split
 ·rfl
 ·split <;> rfl
theorem zIf (ps : List Pt) (k : Nat) (hk : k < ps.length) (v : Pt) (p : Int) : (idx (ps.set k v) p).map (·.Up) = if p = (k : Int) then some v.Up else (idx ps p).map (·.Up) := by
 rw [zDF hk]
 split <;> rfl
theorem qN.other {n : Nat} {x : Net} (hx : qN n x) {k j : Nat} (hk : k < x.Ls.length) (hj : j < x.Ls.length) (hkj : k ≠ j) : qM x.Ls[k].A x.Ls[k].P x.Ls[j] = false ∧ qM x.Ls[k].B x.Ls[k].Q x.Ls[j] = false := by
 obtain ⟨_,s1,s2⟩ := hx.2.2.1.2.2.2.2 k hk
 have key : ∀ b p : Int,qM b p x.Ls[k] = true → qO (qZ b p) x.Ls = 1 → qM b p x.Ls[j] = false := fun b p h1 h2 => by
  rw [Bool.eq_false_iff]
  intro h3
  have c1 := zDp.1 h1
  have c2 := zDp.1 h3
  rcases Nat.lt_or_gt_of_ne hkj with h | h
  ·have := zJO (qZ b p) x.Ls k j h hj
   omega
  ·have := zJO (qZ b p) x.Ls j k h hk
   omega
 exact ⟨key _ _ (YK.2 (.inl ⟨rfl,rfl⟩)) s1,key _ _ (YK.2 (.inr ⟨rfl,rfl⟩)) s2⟩
theorem zOH {n : Nat} (hn : 1048700 < n) {x : Net} (hx : qN n x) {k : Nat} (hk : k < x.Ls.length) (up : Bool) : ∃ y,zA2 n x k up = some y ∧ zAI n x k up = some y ∧ qN n y := by
 obtain ⟨u,u1,u2⟩ := hx.link x.Said k
 unfold zA2 zAI
 rw [show ZW n x k = _ from u1,show Z9 n x k = _ from u2,bQ,bQ]
 cases hu : u == up with
 | true => exact ⟨x,rfl,rfl,hx⟩
 | false =>
  obtain ⟨a,p,c,q,ha,hc,ea,ep,ec,eq,hac,hp,hq,hp6,hq6⟩ := hx.ends hk
  obtain ⟨ba1,ba2,ba3⟩ := hx.br ha
  obtain ⟨bc1,bc2,bc3⟩ := hx.br hc
  obtain ⟨v,v1,v2,v3,v4,v5,v6,v7,_⟩ := zFd n x.Bs[a] p up ba2 (by omega) (by omega) ba1 hp
  obtain ⟨w,w1,w2,w3,w4,w5,w6,w7,_⟩ := zFd n x.Bs[c] q up bc2 (by omega) (by omega) bc1 hq
  have hset : idx (x.Bs.set a v) (c : Int) = some x.Bs[c] := by
   rw [zDF ha,if_neg (by omega),zI hc]
  simp only [fQ,zI hk,bQ,ea,ep,ec,eq,zI ha,v1,v2,Int.toNat_natCast,hset,w1,w2]
  refine ⟨_,rfl,rfl,zKZ hx _ _ (by simp) (fun i hi hi' => ?_) (fun l hl => ?_) hx.2.2.1.2.2.2.1 hx.says⟩
  ·have hself := hx.self i hi hi
   have used : ∀ {i' p' : Nat} {ps qs : List Pt} (hi' : i' < x.Bs.length) (hp' : p' < ps.length) (e : qs = ps.set p' ⟨up,ps[p'].Co,false,⟨0,0,0,0,0⟩⟩) (h : ∀ j (hj : j < ps.length),ps[j].Has = true → x.Ls.any (qM i' j) = true),∀ j (hj : j < qs.length),qs[j].Has = true → x.Ls.any (qM i' j) = true := fun {i' p' ps qs} hi' hp' e h j hj hh => by
    subst e
    by_cases hjp : p' = j
    ·subst hjp
     rw [List.getElem_set_self] at hh
     cases hh
    ·rw [List.getElem_set_ne hjp] at hh
     exact h j (by simpa using hj) hh
   by_cases hic : c = i
   ·subst hic
    simp only [List.getElem_set_self]
    exact ⟨w3,w4,by omega,w6,by rw [w7]; simp,used hc hq w7 (hx.self c hc hc).2.2.2.2.2⟩
   ·by_cases hia : a = i
    ·subst hia
     simp only [List.getElem_set_ne hic,List.getElem_set_self]
     exact ⟨v3,v4,by omega,v6,by rw [v7]; simp,used ha hp v7 (hx.self a ha ha).2.2.2.2.2⟩
    ·simp only [List.getElem_set_ne hic,List.getElem_set_ne hia]
     exact ⟨hself.1,hself.2.1,hself.2.2.1,trivial,trivial,hself.2.2.2.2.2⟩
  ·obtain ⟨j,hj,rfl⟩ := List.getElem_of_mem hl
   have hval : ∀ b p' : Int,zCO ⟨(x.Bs.set a v).set c w,x.Ls,x.Said⟩ b p' = if (b = (c : Int) ∧ p' = (q : Int)) ∨ (b = (a : Int) ∧ p' = (p : Int)) then some up else zCO x b p' := fun b p' => by
    rw [zOr ha hc hac,v7,w7,zIf _ _ hq,zIf _ _ hp]
    have hself : ∀ {i : Nat} (hi : i < x.Bs.length),(idx x.Bs[i].Ps p').map (·.Up) = zCO x (i : Int) p' := fun {i} hi => by
     unfold zCO ZN
     rw [zI hi,bQ]
    by_cases h1 : b = (c : Int)
    ·subst h1
     have : ¬ ((c : Int) = (a : Int)) := by omega
     by_cases h2 : p' = (q : Int)
     ·simp [h2]
     ·simp only [if_true,if_neg h2,hself hc]
      rw [if_neg (by rintro (h | h) <;> omega)]
    ·by_cases h3 : b = (a : Int)
     ·subst h3
      by_cases h2 : p' = (p : Int)
      ·simp [h2,h1]
      ·simp only [if_neg h1,if_true,if_neg h2,hself ha]
       rw [if_neg (by rintro (h | h) <;> omega)]
     ·rw [if_neg h1,if_neg h3,if_neg (by rintro (h | h) <;> omega)]
   rw [hval,hval]
   by_cases hjk : k = j
   ·subst hjk
    rw [ea,ep,ec,eq,if_pos (.inr ⟨rfl,rfl⟩),if_pos (.inl ⟨rfl,rfl⟩)]
   ·obtain ⟨o1,o2⟩ := hx.other hk hj hjk
    have o1' := fun h => Bool.eq_false_iff.1 o1 (YK.2 h)
    have o2' := fun h => Bool.eq_false_iff.1 o2 (YK.2 h)
    rw [ea,ep] at o1'
    rw [ec,eq] at o2'
    rw [if_neg (fun h => h.elim (fun h => o2' (.inl h)) (fun h => o1' (.inl h))),if_neg (fun h => h.elim (fun h => o2' (.inr h)) (fun h => o1' (.inr h)))]
    exact hx.up _ hl
theorem zI5 {m : Nat} {z : Int} (h : (decide (0 ≤ z) && decide (z ≤ (m : Int) - 1)) = true) : ∃ i : Nat,z = i ∧ i < m := by
 rw [Bool.and_eq_true,decide_eq_true_iff,decide_eq_true_iff] at h
 obtain ⟨i,rfl⟩ := Int.eq_ofNat_of_zero_le h.1
 exact ⟨i,rfl,by omega⟩
theorem zHP {n : Nat} (hn : 1048700 < n) {x : Net} (hx : qN n x) (z : Event) : ∃ y b,YE n x z = some (y,b) ∧ Y9 n x z = some (y,b) ∧ qN n y ∧ (b = false → y = x) := by
 have hs : (x.Bs.length + Qo zA.sz x.Bs) + x.Ls.length + x.Said.length = x.sz := rfl
 have hsz := hx.sz
 obtain ⟨k1,k2⟩ := hx.ok hn
 unfold YE Y9
 rw [Jb n x (by omega) (by omega),JV n x (by omega) (by omega),k1,k2]
 simp only [bQ,nQ,fQ]
 have w1 : IntKind.wrap .i64 ((x.Bs.length : Int) - 1) = (x.Bs.length : Int) - 1 := wQ
 have w2 : IntKind.wrap .i64 ((x.Said.length : Int) - 1) = (x.Said.length : Int) - 1 := wQ
 have w3 : IntKind.wrap .i64 ((x.Ls.length : Int) - 1) = (x.Ls.length : Int) - 1 := wQ
 have w4 : IntKind.wrap .i64 ((0 : Int) - 1) = (0 : Int) - 1 := wQ
 have key : ∀ K : Int,z.Ki = K → ∃ y b,(bif (K == 1) then (Zl n x x z true) else (Zl n x x z (K == 6))) = some (y,b) ∧ (bif (K == 1) then (Zi n x x z true) else (Zi n x x z (K == 6))) = some (y,b) ∧ qN n y ∧ (b = false → y = x) := by
  intro K hK
  by_cases h1 : K = 1
  ·subst h1
   unfold Zl Zi ZM
   simp only [show ((1 : Int) == 1) = true from rfl,show ((1 : Int) == 6) = false from rfl,cQ,fQ,ZD,zP,w1,bQ,hK]
   cases h : (decide (0 ≤ z.At) && decide (z.At ≤ (x.Bs.length : Int) - 1)) with
   | false => exact ⟨x,false,rfl,rfl,hx,fun _ => rfl⟩
   | true =>
    obtain ⟨y,e1,e2,e3,_⟩ := zNf hn hx z.At
    simp only [nQ,fQ,e1,e2,bQ]
    exact ⟨y,true,rfl,rfl,e3,fun h => by cases h⟩
  by_cases h6 : K = 6
  ·subst h6
   unfold Zl Zi ZM
   simp only [show ((6 : Int) == 1) = false from rfl,show ((6 : Int) == 6) = true from rfl,cQ,fQ,ZD,zP,w1,bQ,hK]
   cases h : (decide (0 ≤ z.At) && decide (z.At ≤ (x.Bs.length : Int) - 1)) with
   | false => exact ⟨x,false,rfl,rfl,hx,fun _ => rfl⟩
   | true =>
    obtain ⟨i,hi,hil⟩ := zI5 h
    obtain ⟨y,e1,e2,e3⟩ := zOJ hn hx hil
    simp only [nQ,fQ,hi,zI hil,e1,e2,bQ,Int.toNat_natCast]
    exact ⟨_,true,rfl,rfl,e3,fun h => by cases h⟩
  have b1 : (K == 1) = false := by rw [beq_eq_false_iff_ne]; exact h1
  have b6 : (K == 6) = false := by rw [beq_eq_false_iff_ne]; exact h6
  have said : ∀ c : Bool,(K == 2) = c → (K == 2 || K == 3) = true → ∃ y b,Yp n x x z true = some (y,b) ∧ Ym n x x z true = some (y,b) ∧ qN n y ∧ (b = false → y = x) := fun c hc h23 => by
   unfold Yp Ym ZM
   simp only [cQ,fQ,ZD,zP,w2,bQ,hK,b1,b6]
   cases h : (decide (0 ≤ z.At) && decide (z.At ≤ (x.Said.length : Int) - 1)) with
   | false => exact ⟨x,false,rfl,rfl,hx,fun _ => rfl⟩
   | true =>
    obtain ⟨i,hi,hil⟩ := zI5 h
    obtain ⟨y,e1,e2,e3⟩ := zOI hn hx hil z hi
    rw [hK,hc] at e2
    have h3 : c = false → (K == 3) = true := fun h => by rw [hc,h] at h23; simpa using h23
    unfold JU
    simp only [nQ,fQ,e1,bQ,hc,hi,hK]
    cases c with
    | true => simp only [cQ,e2,bQ]; exact ⟨y,true,rfl,rfl,e3,fun h => by cases h⟩
    | false => simp only [h3 rfl,cQ,fQ,e2,bQ]; exact ⟨y,true,rfl,rfl,e3,fun h => by cases h⟩
  by_cases h2 : K = 2
  ·obtain ⟨y,b,e1,e2,e3⟩ := said true (by rw [h2]; rfl) (by rw [h2]; rfl)
   unfold Zl Zi
   simp only [b1,b6,fQ,hK]
   rw [h2]
   exact ⟨y,b,e1,e2,e3⟩
  have b2 : (K == 2) = false := by rw [beq_eq_false_iff_ne]; exact h2
  by_cases h3 : K = 3
  ·obtain ⟨y,b,e1,e2,e3⟩ := said false b2 (by rw [h3]; rfl)
   unfold Zl Zi
   simp only [b1,b6,b2,fQ,hK]
   rw [h3]
   exact ⟨y,b,e1,e2,e3⟩
  have b3 : (K == 3) = false := by rw [beq_eq_false_iff_ne]; exact h3
  have link : (K == 4 || K == 5) = true → ∃ y b,Yq n x x z true = some (y,b) ∧ ZM n x x z (x.Ls.length : Int) = some (y,b) ∧ qN n y ∧ (b = false → y = x) := fun h45 => by
   unfold Yq ZM
   simp only [cQ,fQ,ZD,zP,w3,bQ,hK,b1,b6,b2,b3]
   cases h : (decide (0 ≤ z.At) && decide (z.At ≤ (x.Ls.length : Int) - 1)) with
   | false => exact ⟨x,false,rfl,rfl,hx,fun _ => rfl⟩
   | true =>
    obtain ⟨i,hi,hil⟩ := zI5 h
    obtain ⟨y,e1,e2,e3⟩ := zOH hn hx hil (K == 5)
    unfold JU
    simp only [nQ,fQ,hK,hi,e1,e2,bQ]
    exact ⟨y,true,rfl,rfl,e3,fun h => by cases h⟩
  unfold Zl Zi Yp Ym
  simp only [b1,b6,b2,b3,fQ,hK]
  by_cases h4 : K = 4
  ·rw [h4] at link ⊢
   exact link rfl
  have b4 : (K == 4) = false := by rw [beq_eq_false_iff_ne]; exact h4
  simp only [b4,fQ]
  by_cases h5 : K = 5
  ·rw [h5] at link ⊢
   exact link rfl
  have b5 : (K == 5) = false := by rw [beq_eq_false_iff_ne]; exact h5
  unfold Yq ZM
  simp only [b5,fQ,ZD,zP,w4,bQ,show (decide (0 ≤ z.At) && decide (z.At ≤ (0 : Int) - 1)) = false from by by_cases h : 0 ≤ z.At; { rw [dQ (show ¬ z.At ≤ (0 : Int) - 1 by omega),Bool.and_false] }; { rw [dQ h]; rfl },Bool.not_false,cQ]
  exact ⟨x,false,rfl,rfl,hx,fun _ => rfl⟩
 exact key _ rfl
theorem zGA (n : Nat) (x : Net) (z : Event) (wx : x.wf) (hx : x.sz ≤ 1048576) (hn : 1048700 < n) : ∃ y b,YE n x z = some (y,b) ∧ Y9 n x z = some (y,b) ∧ y.sz ≤ 1048576 ∧ y.wf ∧ (qN n x → qN n y) ∧ (¬ qN n x → y = x ∧ b = false) := by
 obtain ⟨c,h1,h2,h3⟩ := JX n x wx (Big.of hx) hn
 cases c with
 | true =>
  have hg : qN n x := ⟨wx,Big.of hx,(h3.1 rfl).1,(h3.1 rfl).2⟩
  obtain ⟨y,b,e1,e2,e3,_⟩ := zHP hn hg z
  exact ⟨y,b,e1,e2,by have := e3.sz; omega,e3.1,fun _ => e3,fun h => absurd hg h⟩
 | false =>
  unfold YE Y9
  rw [Jb n x (by omega) (by omega),JV n x (by omega) (by omega),h1,h2]
  exact ⟨x,false,rfl,rfl,hx,wx,id,fun _ => ⟨rfl,rfl⟩⟩
theorem zEg (n : Nat) (zs : List Event) (hz : zs.length ≤ 1048576) (hn : 1048700 < n) : ∀ (m k : Nat) (y : Net),y.wf → y.sz ≤ 1048576 → k ≤ zs.length → zs.length < m + k → ∃ w : Net,w.wf ∧ w.sz ≤ 1048576 ∧ (qN n y → qN n w) ∧ YR n m zs k y.Bs y.Ls y.Said = some (.inl (w.Bs,w.Ls,w.Said)) ∧ Zj n m zs k y.Bs y.Ls y.Said = some (.inl (w.Bs,w.Ls,w.Said))
 | 0,k,y,wy,hy,h1,h2 => by omega
 | m + 1,k,y,wy,hy,h1,h2 => by
  rw [YR,Zj]
  by_cases hk : k < zs.length
  ·rw [zp hk,cQ,cQ,zI hk,bQ,bQ,vQ k]
   by_cases h60 : (k : Int) < 60
   ·rw [tQ h60,cQ,cQ]
    obtain ⟨w,b,e1,e2,e3,e4,e5,_⟩ := zGA n y zs[k] wy hy hn
    obtain ⟨v,f1,f2,f3,f4,f5⟩ := zEg n zs hz hn m (k + 1) w e4 e3 (by omega) (by omega)
    rw [show YE n ⟨y.Bs,y.Ls,y.Said⟩ zs[k] = _ from e1,show Y9 n ⟨y.Bs,y.Ls,y.Said⟩ zs[k] = _ from e2,bQ,bQ]
    exact ⟨v,f1,f2,fun h => f3 (e5 h),f4,f5⟩
   ·rw [dQ h60,fQ,fQ]
    refine ⟨y,wy,hy,id,rfl,?_⟩
    have stay : ∀ (m k : Nat),¬ (k : Int) < 60 → k ≤ zs.length → zs.length < m + k → Zj n m zs k y.Bs y.Ls y.Said = some (.inl (y.Bs,y.Ls,y.Said)) := fun m => by
     induction m with
     | zero => intro k _ _ _; omega
     | succ m ih =>
      intro k h60 h1 h2
      rw [Zj]
      by_cases hk : k < zs.length
      ·rw [zp hk,cQ,zI hk,bQ,dQ h60,fQ,vQ k]
       exact ih (k + 1) (by omega) (by omega) (by omega)
      ·obtain rfl : k = zs.length := by omega
       rw [zf]; rfl
    exact stay m (k + 1) (by omega) (by omega) (by omega)
  ·obtain rfl : k = zs.length := by omega
   rw [zf]
   exact ⟨y,wy,hy,id,rfl,rfl⟩
theorem zJI (n : Nat) (x : Net) (zs : List Event) (hz : zs.length ≤ 1048576) (wx : x.wf) (hx : x.sz ≤ 1048576) (hn : 1048700 < n) : ∃ y : Net,JH n x zs = some y ∧ JD n x zs = some y ∧ y.sz ≤ 1048576 ∧ y.wf ∧ (qN n x → qN n y) := by
 obtain ⟨w,f1,f2,f3,f4,f5⟩ := zEg n zs hz hn n 0 x wx hx (by omega) (by omega)
 unfold JH JD
 rw [Jb n x (by omega) (by omega),JV n x (by omega) (by omega),bQ,bQ,show YR n n zs 0 x.Bs x.Ls x.Said = _ from f4,show Zj n n zs 0 x.Bs x.Ls x.Said = _ from f5]
 exact ⟨w,rfl,rfl,f2,f1,f3⟩
theorem zKA (n : Nat) (c : Src) (q : Nat) (hq : q ≤ 6) (hn : 100 < n) (h : c.ok) : ∃ (r : Nat) (c' : Src),zBt n c q = some ((List.range q).map (fun k => ((1 + (r + k * 3) % 7 : Nat) : Int)),c') ∧ c'.ok := by
 obtain ⟨v,c',e1,v0,v1,hc⟩ := zF n c 7 h
 have v1 := v1 (by decide)
 obtain ⟨r,rfl⟩ := Int.eq_ofNat_of_zero_le v0
 have loop : ∀ (m k : Nat),k ≤ q → q < m + k → Q8 n m ((r : Int),c') q k ((List.range k).map (fun k => ((1 + (r + k * 3) % 7 : Nat) : Int))) = some (.inl ((List.range q).map (fun k => ((1 + (r + k * 3) % 7 : Nat) : Int)))) := fun m => by
  induction m with
  | zero => intro k _ _; omega
  | succ m ih =>
   intro k h1 h2
   rw [Q8]
   by_cases hk : k < q
   ·have e3 : IntKind.wrap .i64 ((k : Int) * 3) = ((k * 3 : Nat) : Int) := by rw [wQ]; omega
    have e4 : IntKind.wrap .i64 ((r : Int) + ((k * 3 : Nat) : Int)) = ((r + k * 3 : Nat) : Int) := by rw [wQ]; omega
    have e5 : Int.tmod ((r + k * 3 : Nat) : Int) 7 = (((r + k * 3) % 7 : Nat) : Int) := by rw [Int.tmod_eq_emod_of_nonneg (by omega)]; omega
    have e6 : IntKind.wrap .i64 (1 + (((r + k * 3) % 7 : Nat) : Int)) = ((1 + (r + k * 3) % 7 : Nat) : Int) := by rw [wQ]; omega
    have hd : decide ((7 : Int) ≠ 0) = true := by decide
    simp only [tQ (show (k : Int) < (q : Int) by omega),hd,cQ,e3,e4,e5,e6,vQ k]
    rw [tQ (by simp; omega),cQ]
    have := ih (k + 1) (by omega) (by omega)
    rw [List.range_succ,List.map_append,List.map_singleton] at this
    exact this
   ·obtain rfl : k = q := by omega
    rw [dQ (by omega)]; rfl
 unfold zBt
 rw [e1,bQ,show Q8 n n ((r : Int),c') q 0 [] = _ from loop n 0 (by omega) (by omega)]
 exact ⟨r,c',rfl,hc⟩
def LnkP (q p : Nat) (l : Link) : Prop := ∃ a b x y : Nat,l = ⟨a,x,b,y⟩ ∧ a < q ∧ b < q ∧ x < p ∧ y < p ∧ a ≠ b
def zGK (q p : Nat) (ls : List Link) : Prop := ls.length ≤ 9 ∧ (∀ l ∈ ls,LnkP q p l) ∧ ∀ b x : Int,qO (qZ b x) ls ≤ 1
theorem zGK.add {q p : Nat} {ls : List Link} (h : zGK q p ls) (h9 : ls.length < 9) {a b x y : Nat} (ha : a < q) (hb : b < q) (hx : x < p) (hy : y < p) (hab : a ≠ b) (u1 : qO (qZ a x) ls = 0) (u2 : qO (qZ b y) ls = 0) : zGK q p (ls ++ [⟨a,x,b,y⟩]) := by
 refine ⟨by simp; omega,fun l hl => ?_,fun c z => ?_⟩
 ·rcases List.mem_append.1 hl with hl | hl
  ·exact h.2.1 l hl
  ·rw [List.mem_singleton] at hl
   exact ⟨a,b,x,y,hl,ha,hb,hx,hy,hab⟩
 ·have h1 := h.2.2 c z
  have h2 : qO (qZ c z) [(⟨a,x,b,y⟩ : Link)] = qZ c z ⟨a,x,b,y⟩ := by simp [qO]
  have b1 : ∀ t : Bool,(bif t then 1 else 0 : Nat) ≤ 1 := fun t => by cases t <;> decide
  rw [zEC,h2,show qZ c z (⟨a,x,b,y⟩ : Link) = (bif (a : Int) == c && (x : Int) == z then 1 else 0) + (bif (b : Int) == c && (y : Int) == z then 1 else 0) from rfl]
  by_cases e1 : (a : Int) = c ∧ (x : Int) = z
  ·obtain ⟨rfl,rfl⟩ := e1
   have e2 : ((b : Int) == (a : Int)) = false := by rw [beq_eq_false_iff_ne]; omega
   rw [e2,Bool.false_and,fQ,u1]
   have := b1 ((a : Int) == (a : Int) && (x : Int) == (x : Int))
   omega
  ·have e1' : ((a : Int) == c && (x : Int) == z) = false := by
    rw [Bool.eq_false_iff]
    intro hh
    rw [Bool.and_eq_true,beq_iff_eq,beq_iff_eq] at hh
    exact e1 hh
   rw [e1',fQ]
   by_cases e3 : (b : Int) = c ∧ (y : Int) = z
   ·obtain ⟨rfl,rfl⟩ := e3
    rw [u2]
    have := b1 ((b : Int) == (b : Int) && (y : Int) == (y : Int))
    omega
   ·have e3' : ((b : Int) == c && (y : Int) == z) = false := by
     rw [Bool.eq_false_iff]
     intro hh
     rw [Bool.and_eq_true,beq_iff_eq,beq_iff_eq] at hh
     exact e3 hh
    rw [e3',fQ]
    omega
theorem zDk (n p : Nat) (z : Int) (ls : List Link) (hp : p ≤ 1000) (h : ls.length ≤ 9) (hn : 1000 < n) : ∀ (m k : Nat),k < p → p < m + k → ∃ v : Nat,v < p ∧ Qu n m p z ls k = some (.inl v)
 | 0,k,h1,h2 => by omega
 | m + 1,k,h1,h2 => by
  rw [Qu,Y8 n ⟨[],ls,[]⟩ z k (by simp only; omega) (by simp only; omega),bQ,vQ k]
  by_cases hu : (qO (qZ z k) ls : Int) > 0
  ·rw [tQ hu,cQ]
   by_cases hk : k + 1 < p
   ·rw [tQ (by omega),cQ]
    exact zDk n p z ls hp h hn m (k + 1) hk (by omega)
   ·rw [dQ (by omega),fQ]
    exact ⟨k,h1,rfl⟩
  ·rw [dQ hu,fQ]
   exact ⟨k,h1,rfl⟩
theorem zDj (n p : Nat) (z : Int) (ls : List Link) (hp : p ≤ 1000) (h : ls.length ≤ 9) (hn : 1000 < n) : ∀ (m k : Nat),k < p → p < m + k → ∃ v : Nat,v < p ∧ Qt n m p z ls k = some (.inl v)
 | 0,k,h1,h2 => by omega
 | m + 1,k,h1,h2 => by
  rw [Qt,Y8 n ⟨[],ls,[]⟩ z k (by simp only; omega) (by simp only; omega),bQ,vQ k]
  by_cases hu : (qO (qZ z k) ls : Int) > 0
  ·rw [tQ hu,cQ]
   by_cases hk : k + 1 < p
   ·rw [tQ (by omega),cQ]
    exact zDj n p z ls hp h hn m (k + 1) hk (by omega)
   ·rw [dQ (by omega),fQ]
    exact ⟨k,h1,rfl⟩
  ·rw [dQ hu,fQ]
   exact ⟨k,h1,rfl⟩
theorem zHd {n : Nat} (hn : 1000 < n) {q p : Nat} (hp0 : 1 ≤ p) (hp : p ≤ 1000) (f : Int × List Int × Int × Int × List Link → Option ((List Int × Int × Int × List Link) ⊕ (List Link × Src))) (k : Nat) (hk : k ≤ 1000) (ls : List Link) (h : zGK q p ls) (b a : Nat) (hb : b < q) (ha : a < q) (c : Src) (hc : c.ok) :
  ∃ (c' : Src) (zs : List Link),c'.ok ∧ zGK q p zs ∧ Zf n f p k ls b a c.b c.i c.h = f (((k + 1 : Nat) : Int),c'.b,c'.i,c'.h,zs) := by
 obtain ⟨v1,c1,e1,a1,b1,g1⟩ := zF n c p hc
 obtain ⟨v2,c2,e2,a2,b2,g2⟩ := zF n c1 p g1
 have b1 := b1 (by omega)
 have b2 := b2 (by omega)
 obtain ⟨v1,rfl⟩ := Int.eq_ofNat_of_zero_le a1
 obtain ⟨v2,rfl⟩ := Int.eq_ofNat_of_zero_le a2
 obtain ⟨x,hx,e3⟩ := zDk n p a ls hp h.1 hn n v1 (by omega) (by omega)
 obtain ⟨y,hy,e4⟩ := zDj n p b ls hp h.1 hn n v2 (by omega) (by omega)
 unfold Zf Jc
 rw [show zG n ⟨c.b,c.i,c.h⟩ p = _ from e1,bQ,e2,bQ]
 simp only [e3,bQ,e4]
 unfold Jd QB
 simp only [Y8 n ⟨[],ls,[]⟩ _ _ (show ls.length ≤ 1048600 by have := h.1; omega) (show ls.length < n by have := h.1; omega),bQ,vQ k]
 by_cases hab : (a : Int) = (b : Int)
 ·rw [show ((a : Int) != (b : Int)) = false from by simp [hab],fQ]
  exact ⟨c2,ls,g2,h,rfl⟩
 rw [show ((a : Int) != (b : Int)) = true from by simpa using hab,cQ]
 by_cases u1 : qO (qZ a x) ls = 0
 ·rw [u1,show (((0 : Nat) : Int) == 0) = true from rfl,cQ]
  by_cases u2 : qO (qZ b y) ls = 0
  ·rw [u2,show (((0 : Nat) : Int) == 0) = true from rfl,cQ]
   by_cases h9 : (ls.length : Int) < 9
   ·rw [tQ h9,cQ,tQ (by simp; omega),cQ]
    exact ⟨c2,_,g2,h.add (by omega) ha hb hx hy (by omega) u1 u2,rfl⟩
   ·rw [dQ h9,fQ]
    exact ⟨c2,ls,g2,h,rfl⟩
  ·rw [show (((qO (qZ b y) ls : Nat) : Int) == 0) = false from by rw [beq_eq_false_iff_ne]; omega]
   exact ⟨c2,ls,g2,h,rfl⟩
 ·rw [show (((qO (qZ a x) ls : Nat) : Int) == 0) = false from by rw [beq_eq_false_iff_ne]; omega]
  exact ⟨c2,ls,g2,h,rfl⟩
theorem zDi {n : Nat} (hn : 1000 < n) {q p : Nat} (hp0 : 1 ≤ p) (hp : p ≤ 1000) (hq0 : 1 ≤ q) (hq : q ≤ 6) : ∀ (m k : Nat) (c : Src) (ls : List Link),k ≤ 10 → 10 < m + k → c.ok → zGK q p ls → ∃ (c' : Src) (zs : List Link),c'.ok ∧ zGK q p zs ∧ zn n m q p k c.b c.i c.h ls = some (.inl (c'.b,c'.i,c'.h,zs))
 | 0,k,c,ls,h1,h2,hc,h => by omega
 | m + 1,k,c,ls,h1,h2,hc,h => by
  obtain ⟨v1,c1,e1,a1,b1,g1⟩ := zF n c 4 hc
  have b1 := b1 (by decide)
  obtain ⟨v1,rfl⟩ := Int.eq_ofNat_of_zero_le a1
  rw [zn,show zG n ⟨c.b,c.i,c.h⟩ 4 = _ from e1,bQ,show IntKind.wrap .i64 ((q : Int) + (v1 : Int)) = ((q + v1 : Nat) : Int) from by rw [wQ]; omega]
  by_cases hk : k < q + v1
  ·obtain ⟨v2,c2,e2,a2,b2,g2⟩ := zF n c1 q g1
   obtain ⟨v3,c3,e3,a3,b3,g3⟩ := zF n c2 2 g2
   have b2 := b2 (by omega)
   have b3 := b3 (by decide)
   obtain ⟨v2,rfl⟩ := Int.eq_ofNat_of_zero_le a2
   obtain ⟨v3,rfl⟩ := Int.eq_ofNat_of_zero_le a3
   have t1 : Int.tmod (IntKind.wrap .i64 (((v2 + 1 : Nat) : Int) + (v3 : Int))) (q : Int) = (((v2 + 1 + v3) % q : Nat) : Int) := by
    rw [wQ,Int.tmod_eq_emod_of_nonneg (by omega),← Int.natCast_add,← Int.natCast_emod]
   have t2 : (v2 + 1 + v3) % q < q := Nat.mod_lt _ (by omega)
   rw [tQ (show (k : Int) < ((q + v1 : Nat) : Int) by omega),cQ,e2,bQ,e3,bQ,tQ (show (q : Int) ≠ 0 by omega),cQ,show IntKind.wrap .i64 ((q : Int) - 1) = (q : Int) - 1 from wQ,vQ v2,vQ k,t1]
   have go : ∀ (b a : Nat) (c' : Src),b < q → a < q → c'.ok → ∃ (c'' : Src) (zs : List Link),c''.ok ∧ zGK q p zs ∧ Zf n (fun v => zn n m q p v.1 v.2.1 v.2.2.1 v.2.2.2.1 v.2.2.2.2) p k ls b a c'.b c'.i c'.h = some (.inl (c''.b,c''.i,c''.h,zs)) := fun b a c' hb ha hc' => by
    obtain ⟨c4,zs,g4,l4,e4⟩ := zHd hn hp0 hp (fun v => zn n m q p v.1 v.2.1 v.2.2.1 v.2.2.2.1 v.2.2.2.2) k (by omega) ls h b a hb ha c' hc'
    rw [e4]
    exact zDi hn hp0 hp hq0 hq m (k + 1) c4 zs (by omega) (by omega) g4 l4
   by_cases hkq : (k : Int) < (q : Int) - 1
   ·obtain ⟨v4,c4,e4,g4⟩ := J6 n c3 5 g3
    rw [tQ hkq,cQ,e4,bQ]
    cases v4 with
    | false => exact go (k + 1) k c4 (by omega) (by omega) g4
    | true => exact go _ v2 c4 t2 (by omega) g4
   ·rw [dQ hkq,fQ]
    exact go _ v2 c3 t2 (by omega) g3
  ·rw [dQ (by omega),fQ]
   exact ⟨c1,ls,g1,h,rfl⟩
theorem zIY {n : Nat} (hn : 1000 < n) {q p : Nat} (hp0 : 1 ≤ p) (hp : p ≤ 1000) (hq0 : 1 ≤ q) (hq : q ≤ 6) (c : Src) (hc : c.ok) : ∃ (ls : List Link) (c' : Src),zAV n c q p = some (ls,c') ∧ zGK q p ls ∧ c'.ok := by
 obtain ⟨c',zs,g,l,e⟩ := zDi hn hp0 hp hq0 hq n 0 c [] (by omega) (by omega) hc ⟨Nat.zero_le _,(fun l hl => by cases hl),fun _ _ => Nat.zero_le _⟩
 unfold zAV
 rw [show zn n n q p 0 c.b c.i c.h [] = _ from e]
 exact ⟨zs,c',rfl,l,g⟩
theorem zAb {L : Nat → Int → Option (Unit ⊕ Bool)} (l : Nat) (h : ∀ (m k : Nat),k < l → L (m + 1) k = L m ((k + 1 : Nat) : Int)) (h0 : ∀ m,L (m + 1) (l : Int) = some (.inl ())) : ∀ (m k : Nat),k ≤ l → l < m + k → L m k = some (.inl ())
 | 0,k,h1,h2 => by omega
 | m + 1,k,h1,h2 => by
  by_cases hk : k < l
  ·rw [h m k hk]
   exact zAb l h h0 m (k + 1) hk (by omega)
  ·obtain rfl : k = l := by omega
   exact h0 m
theorem zGX (n : Nat) (x : zA) (hx : x.sz ≤ 1048576) (hn : 1048577 < n) : JT n x x = some true := by
 have hs : x.Name.size + x.Ps.length + x.F.length + x.V.sz = x.sz := rfl
 have hs2 : x.V.Rows.length + x.V.Pv.length = x.V.sz := rfl
 have r1 := zAb (L := fun m k => Ze n m x.V.Rows x.V.Rows k) x.V.Rows.length (fun m k hk => by
  simp only [Ze]
  rw [zp hk,cQ,zI hk,vQ k]
  simp only [bQ,beq_self_eq_true,Bool.and_self,nQ,fQ]) (fun m => by simp only [Ze]; rw [zf]; rfl) n 0 (by omega) (by omega)
 have r2 := zAb (L := fun m k => Zz n m x.V.Pv x.V.Pv k) x.V.Pv.length (fun m k hk => by
  simp only [Zz]
  rw [zp hk,cQ,zI hk,vQ k]
  simp only [bQ,bne_self_eq_false,beq_self_eq_true,Bool.and_self,nQ,fQ]) (fun m => by simp only [Zz]; rw [zf]; rfl) n 0 (by omega) (by omega)
 have r3 := zAb (L := fun m k => ZK n m x x k) x.F.length (fun m k hk => by
  simp only [ZK]
  rw [zp hk,cQ,zI hk,vQ k]
  simp only [bQ,beq_self_eq_true,Bool.and_self,nQ,fQ]) (fun m => by simp only [ZK]; rw [zf]; rfl) n 0 (by omega) (by omega)
 have r4 := zAb (L := fun m k => ZL n m x x k) x.Ps.length (fun m k hk => by
  simp only [ZL]
  rw [zp hk,cQ,zI hk,vQ k]
  simp only [bQ,beq_self_eq_true,Bool.and_self,nQ,fQ]) (fun m => by simp only [ZL]; rw [zf]; rfl) n 0 (by omega) (by omega)
 have q1 : zAO n x.V.Rows x.V.Rows = some true := by
  unfold zAO
  rw [bne_self_eq_false,fQ,show Ze n n x.V.Rows x.V.Rows 0 = _ from r1]; rfl
 have q2 : zAv n x.V.Pv x.V.Pv = some true := by
  unfold zAv
  rw [bne_self_eq_false,fQ,show Zz n n x.V.Pv x.V.Pv 0 = _ from r2]; rfl
 unfold JT Yk Yl
 rw [q1,q2,show ZL n n x x 0 = _ from r4]
 simp only [bne_self_eq_false,beq_self_eq_true,nQ,fQ,bQ,cQ]
 rw [show ZK n n x x 0 = _ from r3]
 rfl
theorem Js (n : Nat) (x : Net) (hx : x.sz ≤ 1048576) (hn : 1048700 < n) : qR n x x = some true := by
 have hs : (x.Bs.length + Qo zA.sz x.Bs) + x.Ls.length + x.Said.length = x.sz := rfl
 have r1 := zAb (L := fun m k => Z5 n m x x k) x.Bs.length (fun m k hk => by
  have := zBx (sz := zA.sz) (List.getElem_mem hk)
  simp only [Z5]
  rw [zp hk,cQ,zI hk,vQ k]
  simp only [bQ,zGX n x.Bs[k] (by omega) (by omega),nQ,fQ]) (fun m => by simp only [Z5]; rw [zf]; rfl) n 0 (by omega) (by omega)
 have r2 := zAb (L := fun m k => Z4 n m x x k) x.Ls.length (fun m k hk => by
  simp only [Z4]
  rw [zp hk,cQ,zI hk,vQ k]
  simp only [bQ,beq_self_eq_true,Bool.and_self,nQ,fQ]) (fun m => by simp only [Z4]; rw [zf]; rfl) n 0 (by omega) (by omega)
 have r3 := zAb (L := fun m k => Z3 n m x x k) x.Said.length (fun m k hk => by
  simp only [Z3]
  rw [zp hk,cQ,zI hk,vQ k]
  simp only [bQ,beq_self_eq_true,Bool.and_self,nQ,fQ]) (fun m => by simp only [Z3]; rw [zf]; rfl) n 0 (by omega) (by omega)
 unfold qR Jt Ju
 simp only [bne_self_eq_false,fQ]
 rw [show Z5 n n x x 0 = _ from r1,show Z4 n n x x 0 = _ from r2,show Z3 n n x x 0 = _ from r3]
 rfl
theorem zO7 (n : Nat) (p : Pt) (c : Int) (hc : 1 ≤ c ∧ c ≤ 1000) (h : qC n p = some true) : qC n ⟨p.Up,c,p.Has,p.Hd⟩ = some true := by
 obtain ⟨_,h1,h2⟩ := zBP n p h
 cases hh : p.Has with
 | false => rw [h2 hh]; exact zDu n c p.Up hc
 | true => rw [(h1 hh).1]; exact zDv n c p.Hd hc (h1 hh).2
theorem zOR {n : Nat} (hn : 1048700 < n) {x : Net} (hx : qN n x) {i j : Nat} (hi : i < x.Bs.length) (hj : j < x.Bs[i].Ps.length) (c : Int) (hc : 1 ≤ c ∧ c ≤ 1000) : qN n ⟨x.Bs.set i ⟨x.Bs[i].Id,x.Bs[i].Name,x.Bs[i].Ps.set j ⟨x.Bs[i].Ps[j].Up,c,x.Bs[i].Ps[j].Has,x.Bs[i].Ps[j].Hd⟩,x.Bs[i].F,x.Bs[i].V,x.Bs[i].Tk,x.Bs[i].Pa,x.Bs[i].Wo,x.Bs[i].Dr,x.Bs[i].Ve⟩,x.Ls,x.Said⟩ := by
 obtain ⟨b1,b2,b3⟩ := hx.br hi
 have hs : x.Bs[i].Name.size + x.Bs[i].Ps.length + x.Bs[i].F.length + x.Bs[i].V.sz = x.Bs[i].sz := rfl
 obtain ⟨p1,p2,p3,p4,p5,p6,p7,p8,p9,p10,p11,p12,p13⟩ := qU n _ (by omega) b1
 obtain ⟨w1,w2,w3,w4,w5⟩ := b2
 have wj := w3.2 _ (List.getElem_mem hj)
 have hps : ∀ q (hq : q < (x.Bs[i].Ps.set j ⟨x.Bs[i].Ps[j].Up,c,x.Bs[i].Ps[j].Has,x.Bs[i].Ps[j].Hd⟩).length),qC n (x.Bs[i].Ps.set j ⟨x.Bs[i].Ps[j].Up,c,x.Bs[i].Ps[j].Has,x.Bs[i].Ps[j].Hd⟩)[q] = some true := zKe (P := fun q => qC n q = some true) p13 (zO7 n _ c hc (p13 j hj))
 refine zI4 hx hi (⟨x.Bs[i].Id,x.Bs[i].Name,x.Bs[i].Ps.set j ⟨x.Bs[i].Ps[j].Up,c,x.Bs[i].Ps[j].Has,x.Bs[i].Ps[j].Hd⟩,x.Bs[i].F,x.Bs[i].V,x.Bs[i].Tk,x.Bs[i].Pa,x.Bs[i].Wo,x.Bs[i].Dr,x.Bs[i].Ve⟩ : zA) (zAC n (⟨x.Bs[i].Id,x.Bs[i].Name,x.Bs[i].Ps.set j ⟨x.Bs[i].Ps[j].Up,c,x.Bs[i].Ps[j].Has,x.Bs[i].Ps[j].Hd⟩,x.Bs[i].F,x.Bs[i].V,x.Bs[i].Tk,x.Bs[i].Pa,x.Bs[i].Wo,x.Bs[i].Dr,x.Bs[i].Ve⟩ : zA) (by simp only [List.length_set]; omega) (by simp only [List.length_set]; exact p1) (by simp only [List.length_set]; exact p2) p3 p4 p5 p6 (by simp only [List.length_set]; exact p7) p8 p9 p10 p11 p12 hps) ⟨w1,w2,zB7 w3 ⟨iQ (z := c),wj.2⟩,w4,w5⟩ ?_ rfl (by simp) (fun q hq hh => ?_) (fun q => ?_) x.Said hx.2.2.1.2.2.2.1 hx.says
 ·show x.Bs[i].Name.size + (x.Bs[i].Ps.set j _).length + x.Bs[i].F.length + x.Bs[i].V.sz ≤ 1048576
  rw [List.length_set]; omega
 ·have hq' : q < x.Bs[i].Ps.length := by simpa using hq
  refine (hx.2.2.1.1 i hi hi).2.2 q hq' ?_
  by_cases hjq : j = q
  ·subst hjq
   simpa using hh
  ·simp only [List.getElem_set_ne hjq] at hh
   exact hh
 ·simp only
  rw [zDF hj]
  split
  ·rename_i e
   subst e
   rw [zI hj]; rfl
  ·rfl
theorem zEn {n : Nat} (hn : 1048700 < n) {ls : List Link} {ss : List Say} {i : Nat} : ∀ (m k : Nat) (bs : List zA) (c : Src),qN n ⟨bs,ls,ss⟩ → c.ok → ∀ (hi : i < bs.length),k ≤ bs[i].Ps.length → bs[i].Ps.length < m + k → ∃ (zs : List zA) (c' : Src),qN n ⟨zs,ls,ss⟩ ∧ zs.length = bs.length ∧ c'.ok ∧ Qa n m i k bs c.b c.i c.h = some (.inl (zs,c'.b,c'.i,c'.h))
 | 0,k,bs,c,hx,hc,hi,h1,h2 => by omega
 | m + 1,k,bs,c,hx,hc,hi,h1,h2 => by
  have h40 := (hx.br hi).2.2
  have hs : bs[i].Name.size + bs[i].Ps.length + bs[i].F.length + bs[i].V.sz = bs[i].sz := rfl
  simp only at h40
  rw [Qa,zI hi,bQ]
  by_cases hk : k < bs[i].Ps.length
  ·obtain ⟨v,c',e1,hv,g⟩ := za n c [1,1,2,5,20] hc (by decide)
   have hv' : 1 ≤ v ∧ v ≤ 1000 := by
    simp only [List.mem_cons,List.not_mem_nil,or_false] at hv
    omega
   have hx' := zOR hn hx hi hk v hv'
   simp only at hx'
   rw [zp hk,cQ,show zX n ⟨c.b,c.i,c.h⟩ [1,1,2,5,20] = _ from e1,bQ,zI hk,bQ,vQ k,Int.toNat_natCast,Int.toNat_natCast]
   obtain ⟨zs,c'',z1,z2,z3,z4⟩ := zEn hn m (k + 1) _ c' hx' g (by simpa using hi) (by simp; omega) (by simp; omega)
   exact ⟨zs,c'',z1,by rw [z2]; simp,z3,z4⟩
  ·rw [dQ (by omega),fQ]
   exact ⟨bs,c,hx,rfl,hc,rfl⟩
theorem zEm {n : Nat} (hn : 1048700 < n) {ls : List Link} {ss : List Say} : ∀ (m k : Nat) (bs : List zA) (c : Src),qN n ⟨bs,ls,ss⟩ → c.ok → k ≤ bs.length → bs.length < m + k → ∃ (zs : List zA) (c' : Src),qN n ⟨zs,ls,ss⟩ ∧ zs.length = bs.length ∧ c'.ok ∧ ZZ n m k bs c.b c.i c.h = some (.inl (zs,c'.b,c'.i,c'.h))
 | 0,k,bs,c,hx,hc,h1,h2 => by omega
 | m + 1,k,bs,c,hx,hc,h1,h2 => by
  have h6 := hx.2.2.1.2.1.2
  simp only at h6
  rw [ZZ]
  by_cases hk : k < bs.length
  ·have h40 := (hx.br hk).2.2
   have hs : bs[k].Name.size + bs[k].Ps.length + bs[k].F.length + bs[k].V.sz = bs[k].sz := rfl
   simp only at h40
   obtain ⟨ys,c',y1,y2,y3,y4⟩ := zEn hn n 0 bs c hx hc hk (by omega) (by omega)
   rw [zp hk,cQ,show Qa n n k 0 bs c.b c.i c.h = _ from y4]
   simp only [bQ,J3,vQ k]
   obtain ⟨zs,c'',z1,z2,z3,z4⟩ := zEm hn m (k + 1) ys c' y1 y3 (by omega) (by omega)
   exact ⟨zs,c'',z1,by omega,z3,z4⟩
  ·obtain rfl : k = bs.length := by omega
   rw [zf]
   exact ⟨bs,c,hx,rfl,hc,rfl⟩
theorem zE3 (n : Nat) (c : Src) (x : Net) (hc : c.ok) : ∃ (z : Event) (c' : Src),Ye n c x = some (z,c') ∧ c'.ok := by
 have j1 : ∀ (y : Bool) (c : Src),c.ok → ∃ (z : Event) (c' : Src),Qv n x y c.b c.i c.h = some (z,c') ∧ c'.ok := fun y c hc => by
  unfold Qv
  cases y with
  | true =>
   obtain ⟨v,c1,e1,_,g1⟩ := za n c [2,2,2,2,3] hc (by decide)
   obtain ⟨w,c2,e2,_,_,g2⟩ := zF n c1 (x.Said.length : Int) g1
   rw [cQ,show zX n ⟨c.b,c.i,c.h⟩ [2,2,2,2,3] = _ from e1,bQ,e2]
   exact ⟨_,c2,rfl,g2⟩
  | false =>
   obtain ⟨v,c1,e1,_,g1⟩ := za n c [1,1,1,1,4,5,6] hc (by decide)
   rw [fQ,show zX n ⟨c.b,c.i,c.h⟩ [1,1,1,1,4,5,6] = _ from e1,bQ]
   have j2 : ∀ t : Bool,∃ (z : Event) (c' : Src),Qw n (v,c1) x t = some (z,c') ∧ c'.ok := fun t => by
    unfold Qw
    obtain ⟨w,c2,e2,_,_,g2⟩ := zF n c1 (x.Ls.length : Int) g1
    obtain ⟨w',c3,e3,_,_,g3⟩ := zF n c1 (x.Bs.length : Int) g1
    simp only [e2,e3,bQ]
    cases t with
    | true => cases ((x.Ls.length : Int) == 0) <;> exact ⟨_,_,rfl,by assumption⟩
    | false => cases ((x.Bs.length : Int) == 0) <;> exact ⟨_,_,rfl,by assumption⟩
   cases ((v,c1).1 == 4) with
   | true => exact j2 true
   | false => exact j2 _
 unfold Ye
 cases decide ((x.Said.length : Int) > 0) with
 | true =>
  obtain ⟨v,c1,e1,g1⟩ := J6 n c 2 hc
  rw [cQ,e1,bQ]
  exact j1 v c1 g1
 | false => exact j1 false c hc
theorem zEl {n : Nat} (hn : 1048700 < n) : ∀ (m k : Nat) (x : Net) (c : Src),qN n x → c.ok → k < m → k ≤ 1000 → ∃ (y : Net) (c' : Src),qN n y ∧ c'.ok ∧ QZ n m k c.b c.i c.h x.Bs x.Ls x.Said = some (.inl (c'.b,c'.i,c'.h,y.Bs,y.Ls,y.Said))
 | 0,k,x,c,hx,hc,h,h' => by omega
 | m + 1,k,x,c,hx,hc,h,h' => by
  rw [QZ]
  by_cases hk : (k : Int) > 0
  ·obtain ⟨z,c1,e1,g1⟩ := zE3 n c x hc
   obtain ⟨y,b,e2,_,e3,_⟩ := zHP hn hx z
   rw [tQ hk,cQ,show Ye n ⟨c.b,c.i,c.h⟩ ⟨x.Bs,x.Ls,x.Said⟩ = _ from e1,bQ,show YE n ⟨x.Bs,x.Ls,x.Said⟩ z = _ from e2,bQ,show IntKind.wrap .i64 ((k : Int) - 1) = ((k - 1 : Nat) : Int) from by rw [wQ]; omega]
   exact zEl hn m (k - 1) y c1 e3 g1 (by omega) (by omega)
  ·rw [dQ hk,fQ]
   exact ⟨x,c,hx,hc,rfl⟩
theorem zPF (p : Nat) (h1 : 1 ≤ p) (h6 : p ≤ 6) : ∃ vt : zD,YS 1048800 p = some vt ∧ zy 1048800 vt p = some true ∧ vt.sz ≤ 10 ∧ vt.wf := by
 have wf : ∀ (m : Int) (k : Nat),0 ≤ m → m ≤ 63 → k ≤ 6 → (⟨[⟨1,m,m⟩],List.replicate k 1⟩ : zD).wf := fun m k h0 h1 hk => by
  refine ⟨⟨by simp only [List.length_singleton]; decide,fun r hr => ?_⟩,⟨?_,fun r hr => ?_⟩,trivial⟩
  ·rw [List.mem_singleton] at hr; subst hr
   exact ⟨zV (by simp only; omega) (by simp only; omega),zV (by simp only; omega) (by simp only; omega),zV (by simp only; omega) (by simp only; omega),trivial⟩
  ·have : maxLen = 9223372036854775807 := by decide
   simp only [List.length_replicate]; omega
  ·obtain ⟨_,rfl⟩ := List.mem_replicate.1 hr
   exact zV (by omega) (by omega)
 have hc : p = 1 ∨ p = 2 ∨ p = 3 ∨ p = 4 ∨ p = 5 ∨ p = 6 := by omega
 rcases hc with rfl | rfl | rfl | rfl | rfl | rfl
 ·exact ⟨⟨[⟨1,1,1⟩],List.replicate 1 1⟩,by kernel_rfl,by kernel_rfl,by decide,wf _ _ (by decide) (by decide) (by decide)⟩
 ·exact ⟨⟨[⟨1,3,3⟩],List.replicate 2 1⟩,by kernel_rfl,by kernel_rfl,by decide,wf _ _ (by decide) (by decide) (by decide)⟩
 ·exact ⟨⟨[⟨1,7,7⟩],List.replicate 3 1⟩,by kernel_rfl,by kernel_rfl,by decide,wf _ _ (by decide) (by decide) (by decide)⟩
 ·exact ⟨⟨[⟨1,15,15⟩],List.replicate 4 1⟩,by kernel_rfl,by kernel_rfl,by decide,wf _ _ (by decide) (by decide) (by decide)⟩
 ·exact ⟨⟨[⟨1,31,31⟩],List.replicate 5 1⟩,by kernel_rfl,by kernel_rfl,by decide,wf _ _ (by decide) (by decide) (by decide)⟩
 ·exact ⟨⟨[⟨1,63,63⟩],List.replicate 6 1⟩,by kernel_rfl,by kernel_rfl,by decide,wf _ _ (by decide) (by decide) (by decide)⟩
theorem zNU (p : Nat) (h1 : 1 ≤ p) (h6 : p ≤ 6) : YL 1048800 1048800 p 0 [] = some (.inl (psK p 0)) ∧ True := by
 have hc : p = 1 ∨ p = 2 ∨ p = 3 ∨ p = 4 ∨ p = 5 ∨ p = 6 := by omega
 rcases hc with rfl | rfl | rfl | rfl | rfl | rfl <;> exact ⟨by kernel_rfl,trivial⟩
theorem zIm (z : Int) (q : Int) : (¬ ((1 ≤ z ∧ z ≤ 99) ∧ 1 ≤ q ∧ q ≤ 6) ∧ qo 1048800 z q = some noB) ∨ ∃ (p : Nat) (vt : zD),q = p ∧ (1 ≤ z ∧ z ≤ 99) ∧ 1 ≤ p ∧ p ≤ 6 ∧ vt.sz ≤ 10 ∧ vt.wf ∧ zy 1048800 vt p = some true ∧ qo 1048800 z q = some (nbB z vt (psK p 0) 0) := by
 unfold qo
 simp only [zP,bQ]
 by_cases hz : 1 ≤ z ∧ z ≤ 99
 ·rw [tQ hz.1,tQ hz.2]
  by_cases hq : 1 ≤ q ∧ q ≤ 6
  ·obtain ⟨p,rfl⟩ := Int.eq_ofNat_of_zero_le (show 0 ≤ q by omega)
   obtain ⟨vt,e1,e3,e4,e5⟩ := zPF p (by omega) (by omega)
   have f1 := (zNU p (by omega) (by omega)).1
   refine .inr ⟨p,vt,rfl,hz,by omega,by omega,e4,e5,e3,?_⟩
   ·rw [tQ hq.1,tQ hq.2]
    simp only [Bool.and_self,nQ,fQ,e1,bQ,f1]
    rfl
  ·refine .inl ⟨fun h => hq h.2,?_⟩
   have : (decide (1 ≤ q) && decide (q ≤ 6)) = false := by
    simp only [Bool.and_eq_false_iff,decide_eq_false_iff_not]; omega
   rw [this]
   rfl
 ·refine .inl ⟨fun h => hz h.1,?_⟩
  have : (decide (1 ≤ z) && decide (z ≤ 99)) = false := by
   simp only [Bool.and_eq_false_iff,decide_eq_false_iff_not]; omega
  rw [this]
  rfl
theorem zKK {z : Int} {vt : zD} {p : Nat} (hz : 1 ≤ z ∧ z ≤ 99) (h1 : 1 ≤ p) (h6 : p ≤ 6) (hv : zy 1048800 vt p = some true) (hs : vt.sz ≤ 10) (wv : vt.wf) (r8 : zA) (hr : r8.Ps.length = p) : ∀ (m k : Nat) (v : Int),k ≤ p → p < m + k → 0 ≤ v → v ≤ 1000000 → ∃ w,0 ≤ w ∧ w ≤ 1000000 ∧
  ∀ (i : Nat) (zs : List zA) (hi : i < zs.length),zs[i] = nbB z vt (psK p k) v → QN 1048800 m p i k zs = some (.inl (zs.set i (nbB z vt (psK p p) w)))
 | 0,k,v,hk,hm,v0,v1 => by omega
 | m + 1,k,v,hk,hm,v0,v1 => by
  by_cases hkp : k < p
  ·obtain ⟨v',a0,a1,e1,e2⟩ := zQH hz h1 h6 hkp hv hs wv v0 v1
   obtain ⟨w,b0,b1,f2⟩ := zKK hz h1 h6 hv hs wv r8 hr m (k + 1) v' hkp (by omega) a0 a1
   refine ⟨w,b0,b1,fun i zs hi hzi => ?_⟩
   ·rw [QN,tQ (show (k : Int) < (p : Int) by omega),cQ,zI hi,bQ,hzi,e1,bQ,vQ k,Int.toNat_natCast,f2 i (zs.set i (nbB z vt (psK p (k + 1)) v')) (by simpa using hi) (by simp),List.set_set]
  ·obtain rfl : k = p := by omega
   refine ⟨v,v0,v1,fun i zs hi hzi => ?_⟩
   ·rw [QN,dQ (show ¬ (k : Int) < (k : Int) by omega),fQ,← hzi,List.set_getElem_self]
theorem NU.make_s (z q : Int) : ∃ y y',NU q y y' ∧ qo 1048800 z q = some y := by
 rcases zIm z q with ⟨_,e1⟩ | ⟨p,vt,rfl,hz,h1,h6,hs,wv,hv,e1⟩
 ·exact ⟨noB,noB,.inl ⟨rfl,rfl⟩,e1⟩
 ·obtain ⟨w,b0,b1,f2⟩ := zKK hz h1 h6 hv hs wv (nbB z vt (psK p 0) 0) (JM (by omega)) 1048800 0 0 (by omega) (by omega) (by omega) (by omega)
  exact ⟨_,_,.inr ⟨z,p,vt,w,rfl,hz,h1,h6,hs,wv,hv,b0,b1,rfl,rfl,fun i zs hi hzi => f2 i zs hi hzi⟩,e1⟩
theorem zFe (xs : List Int) (q : Int) (h : xs.length ≤ 1048576) : ∀ (m k : Nat) (acc acc' : List zA),k ≤ xs.length → xs.length < m + k → acc.length = k → acc'.length = k → (∀ j (hj : j < acc.length) (hj' : j < acc'.length),NU q acc[j] acc'[j]) → ∃ ys ys' : List zA,Zr 1048800 m xs q k acc = some (.inl ys) ∧ ys.length = xs.length ∧ ys'.length = xs.length ∧ ∀ j (hj : j < ys.length) (hj' : j < ys'.length),NU q ys[j] ys'[j]
 | 0,k,acc,acc',h1,h2,h3,h3',h4 => by omega
 | m + 1,k,acc,acc',h1,h2,h3,h3',h4 => by
  rw [Zr]
  by_cases hk : k < xs.length
  ·obtain ⟨y,y',u,e1⟩ := NU.make_s xs[k] q
   rw [zp hk,cQ,zI hk,bQ,e1,bQ,tQ (by simp; omega),cQ,vQ k]
   exact zFe xs q h m (k + 1) (acc ++ [y]) (acc' ++ [y']) (by omega) (by omega) (by simp; omega) (by simp; omega) (fun j hj hj' => by
    by_cases hjk : j < k
    ·rw [List.getElem_append_left (by omega),List.getElem_append_left (by omega)]; exact h4 j (by omega) (by omega)
    ·have : j = k := by simp at hj; omega
     subst this
     rw [List.getElem_append_right (by omega),List.getElem_append_right (by omega)]
     simp only [h3,h3',Nat.sub_self,List.getElem_cons_zero]
     exact u)
  ·obtain rfl : k = xs.length := by omega
   rw [zf]
   exact ⟨acc,acc',rfl,h3,h3',h4⟩
theorem zDe (xs : List Int) (q : Int) (h : xs.length ≤ 1048576) : ∀ (m k : Nat) (acc ys : List zA),k ≤ xs.length → acc.length = k → (∀ j (hj : j < acc.length) (hx : j < xs.length),qo 1048800 xs[j] q = some acc[j]) → Zr 1048800 m xs q k acc = some (.inl ys) → ∀ j (hj : j < ys.length) (hx : j < xs.length),qo 1048800 xs[j] q = some ys[j]
 | 0,k,acc,ys,_,_,_,h => by cases h
 | m + 1,k,acc,ys,h1,h2,h3,e => by
  rw [Zr] at e
  by_cases hk : k < xs.length
  ·obtain ⟨y,y',u,e1⟩ := NU.make_s xs[k] q
   rw [zp hk,cQ,zI hk,bQ,e1,bQ,tQ (by simp; omega),cQ,vQ k] at e
   refine zDe xs q h m (k + 1) (acc ++ [y]) ys (by omega) (by simp; omega) (fun j hj hx => ?_) e
   by_cases hjk : j < k
   ·rw [List.getElem_append_left (by omega)]
    exact h3 j (by omega) hx
   ·have : j = k := by simp at hj; omega
    subst this
    rw [List.getElem_append_right (by omega)]
    simp only [h2,Nat.sub_self,List.getElem_cons_zero]
    exact e1
  ·obtain rfl : k = xs.length := by omega
   rw [zf] at e
   cases e
   exact h3
theorem zL8 (xs : List Int) (p : Nat) (ls : List Link) (h0 : 1 ≤ xs.length) (h6 : xs.length ≤ 6) (hx : ∀ j (hj : j < xs.length),1 ≤ xs[j] ∧ xs[j] ≤ 99) (hd : ∀ i j (hj : j < xs.length) (hij : i < j),xs[i] ≠ xs[j]) (hp0 : 1 ≤ p) (hp : p ≤ 6) (hl : zGK xs.length p ls) :
  ∃ ys : List zA,zBn 1048800 xs p ls = some ⟨ys,ls,[]⟩ ∧ qN 1048800 ⟨ys,ls,[]⟩ ∧ ys.length = xs.length ∧ ∀ j (hj : j < ys.length),ys[j].Ps.length = p ∧ ∀ k (hk : k < ys[j].Ps.length),ys[j].Ps[k].Up = true := by
 have hm : maxLen = 9223372036854775807 := by decide
 have h9 := hl.1
 have wl : Q5 Link.wf ls := ⟨by omega,fun l hl' => by
  obtain ⟨a,b,x,y,rfl,ha,hb,hx',hy,_⟩ := hl.2.1 l hl'
  exact ⟨iQ (z := (a : Int)),iQ (z := (x : Int)),iQ (z := (b : Int)),iQ (z := (y : Int)),trivial⟩⟩
 have big : ∀ ys : List zA,ys.length ≤ 1048576 → (∀ y ∈ ys,y.wf ∧ y.sz ≤ 16) → (⟨ys,ls,[]⟩ : Net).wf ∧ Big ⟨ys,ls,[]⟩ := fun ys hy hw => ⟨⟨⟨by simp only; omega,fun y hy => (hw y hy).1⟩,wl,⟨Nat.zero_le _,fun _ hs => by cases hs⟩,trivial⟩,hy,fun a ha => by have := (hw a ha).2; omega,by simp only; omega,Nat.zero_le _⟩
 obtain ⟨ys,ys',e1,l1,l2,hu⟩ := zFe xs p (by omega) 1048800 0 [] [] (by omega) (by omega) rfl rfl (fun j hj => absurd hj (Nat.not_lt_zero j))
 have each := zDe xs p (by omega) 1048800 0 [] ys (by omega) rfl (fun j hj => absurd hj (Nat.not_lt_zero j)) e1
 have nb : ∀ j (hj : j < ys.length),ys[j].Id = xs[j]'(by omega) ∧ ys[j].Ps.length = p ∧ zU 1048800 ys[j] = some true := fun j hj => by
  have hxj : j < xs.length := by omega
  have e := each j hj hxj
  rcases zIm xs[j] p with ⟨hno,_⟩ | ⟨p',vt,hpp,hz,q1,q6,hs,wv,hv,e2⟩
  ·exact absurd ⟨hx j hxj,by omega,by omega⟩ hno
  ·obtain rfl : p = p' := by omega
   rw [e] at e2
   have e3 := Option.some.inj e2
   rw [e3]
   exact ⟨rfl,JM (by omega),zJr hz q1 q6 (by omega) hv (by omega) (by omega)⟩
 have fy : ∀ y ∈ ys,y.wf ∧ y.sz ≤ 16 := fun y hy => by
  obtain ⟨j,hj,rfl⟩ := List.getElem_of_mem hy
  have f := (hu j hj (by omega)).facts
  exact ⟨f.1,f.2.2.1⟩
 have fy' : ∀ y ∈ ys',y.wf ∧ y.sz ≤ 16 := fun y hy => by
  obtain ⟨j,hj,rfl⟩ := List.getElem_of_mem hy
  have f := (hu j (by omega) hj).facts
  exact ⟨f.2.1,f.2.2.2.1⟩
 obtain ⟨w1,b1⟩ := big ys (by omega) fy
 obtain ⟨w2,b2⟩ := big ys' (by omega) fy'
 obtain ⟨b,o1,_,_,o4⟩ := zN5 1048800 _ w1 b1 (by omega)
 have port : ∀ (a x : Nat),a < ys.length → x < p → ∃ v,ZN ⟨ys,ls,[]⟩ a x = some v ∧ v.Up = false := fun a x ha hx' => by
  have hl := (nb a ha).2.1
  refine ⟨ys[a].Ps[x]'(by omega),?_,((hu a ha (by omega)).facts.2.2.2.2.2.2.2.1 x (by omega)).1⟩
  unfold ZN
  simp only
  rw [zI ha,bQ,zI (by omega)]
 have hc : zGp 1048800 ⟨ys,ls,[]⟩ := by
  refine ⟨fun k _ hk => ⟨(nb k hk).2.2,fun j hj => ?_,fun q hq hh => ?_⟩,⟨by simp only; omega,by simp only; omega⟩,hl.1,Nat.zero_le _,fun k hk => ?_⟩
  ·have hk' : k < ys.length := hk
   simp only
   rw [(nb j (by omega)).1,(nb k hk').1]
   exact hd j k (by omega) hj
  ·have hk' : k < ys.length := hk
   have f := ((hu k hk' (by omega)).facts.2.2.2.2.2.2.2.1 q hq).2
   simp only at hh
   rw [f] at hh
   cases hh
  ·have hk' : k < ls.length := hk
   obtain ⟨a,b,x,y,e,ha,hb,hx',hy,hab⟩ := hl.2.1 ls[k] (List.getElem_mem hk')
   simp only
   have one : ∀ c z : Int,qM c z ls[k] = true → qO (qZ c z) ls = 1 := fun c z hcz => by
    have c1 := zDp.1 hcz
    have c2 := zHK (qZ c z) ls _ (List.getElem_mem hk')
    have c3 := hl.2.2 c z
    omega
   refine ⟨?_,one _ _ (YK.2 (.inl ⟨rfl,rfl⟩)),one _ _ (YK.2 (.inr ⟨rfl,rfl⟩))⟩
   rw [e]
   obtain ⟨v,v1,v2⟩ := port a x (by omega) hx'
   obtain ⟨w,w1,w2⟩ := port b y (by omega) hy
   exact ⟨fun h => by simp only at h; omega,v,w,v1,w1,v2.trans w2.symm⟩
 obtain rfl := o4 rfl hc
 have nob : ∀ j (hj : j < ys.length),ys[j] ≠ noB := fun j hj e => by
  have := (nb j hj).2.1
  rw [e] at this
  simp only [noB,List.length_nil] at this
  omega
 have l3 := zE1 p ys ys' (by omega) (by omega) hu nob 1048800 0 ys (by omega) (by omega) rfl (fun j hj => by rw [if_neg (by omega)])
 refine ⟨ys',?_,⟨w2,b2,(zOb p ls ys ys' (by omega) hu).1 hc,fun s hs => by cases hs⟩,by omega,fun j hj => ?_⟩
 ·have hg : decide (([] : List Link).length + ls.length ≤ 268435456) = true := tQ (by simp; omega)
  unfold zBn
  rw [hg,cQ,show Zr 1048800 1048800 xs p 0 [] = _ from e1]
  simp only [bQ,zAQ,List.nil_append]
  rw [o1]
  simp only [bQ,nQ,fQ]
  rw [show Zq 1048800 1048800 p 0 ys = _ from l3]
  rfl
 ·have f := (hu j (by omega) hj).facts
  exact ⟨by have := (nb j (by omega)).2.1; have := f.2.2.2.2.2.1; omega,fun k hk => (f.2.2.2.2.2.2.2.2 k hk).1⟩
theorem zNz (r q : Nat) (hq : q ≤ 6) : (∀ j (hj : j < ((List.range q).map (fun k => ((1 + (r + k * 3) % 7 : Nat) : Int))).length),1 ≤ ((List.range q).map (fun k => ((1 + (r + k * 3) % 7 : Nat) : Int)))[j] ∧ ((List.range q).map (fun k => ((1 + (r + k * 3) % 7 : Nat) : Int)))[j] ≤ 99) ∧
  ∀ i j (hj : j < ((List.range q).map (fun k => ((1 + (r + k * 3) % 7 : Nat) : Int))).length) (hij : i < j),((List.range q).map (fun k => ((1 + (r + k * 3) % 7 : Nat) : Int)))[i] ≠ ((List.range q).map (fun k => ((1 + (r + k * 3) % 7 : Nat) : Int)))[j] := by
 refine ⟨fun j hj => ?_,fun i j hj hij => ?_⟩
 ·rw [List.getElem_map,List.getElem_range]
  omega
 ·have hj' : j < q := by simpa using hj
  rw [List.getElem_map,List.getElem_range,List.getElem_map,List.getElem_range]
  omega
theorem zJM (c : Src) (hc : c.ok) (z : Int) (z0 : 0 ≤ z) (z1 : z ≤ 100) : ∃ (y : Net) (c' : Src),zA1 1048800 c z = some (y,c') ∧ qN 1048800 y ∧ c'.ok := by
 obtain ⟨v1,c1,e1,a1,b1,g1⟩ := zF 1048800 c 6 hc
 obtain ⟨v2,c2,e2,a2,b2,g2⟩ := zF 1048800 c1 4 g1
 have b1 := b1 (by decide)
 have b2 := b2 (by decide)
 obtain ⟨v1,rfl⟩ := Int.eq_ofNat_of_zero_le a1
 obtain ⟨v2,rfl⟩ := Int.eq_ofNat_of_zero_le a2
 have t1 : IntKind.wrap .i64 (1 + (v1 : Int)) = ((1 + v1 : Nat) : Int) := by rw [wQ]; omega
 have t2 : IntKind.wrap .i64 (2 + (v2 : Int)) = ((2 + v2 : Nat) : Int) := by rw [wQ]; omega
 obtain ⟨r,c3,e3,g3⟩ := zKA 1048800 c2 (1 + v1) (by omega) (by omega) g2
 obtain ⟨ls,c4,e4,l4,g4⟩ := zIY (n := 1048800) (by omega) (q := 1 + v1) (p := 2 + v2) (by omega) (by omega) (by omega) (by omega) c3 g3
 obtain ⟨i1,i2⟩ := zNz r (1 + v1) (by omega)
 have hlen : ((List.range (1 + v1)).map (fun k => ((1 + (r + k * 3) % 7 : Nat) : Int))).length = 1 + v1 := by simp
 obtain ⟨ys,e5,n5,_⟩ := zL8 _ (2 + v2) ls (by omega) (by omega) i1 i2 (by omega) (by omega) (by rw [hlen]; exact l4)
 have h6 := n5.2.2.1.2.1.2
 simp only at h6
 obtain ⟨zs,c6,n6,l6,g6,e6⟩ := zEm (n := 1048800) (by omega) 1048800 0 ys c4 n5 g4 (by omega) (by omega)
 obtain ⟨v7,c7,e7,a7,b7,g7⟩ := zF 1048800 c6 (IntKind.wrap .i64 (z + 1)) g6
 have t7 : IntKind.wrap .i64 (z + 1) = z + 1 := wQ
 have b7 := b7 (by omega)
 obtain ⟨v7,rfl⟩ := Int.eq_ofNat_of_zero_le a7
 obtain ⟨y,c8,n8,g8,e8⟩ := zEl (n := 1048800) (by omega) 1048800 v7 ⟨zs,ls,[]⟩ c7 n6 g7 (by omega) (by omega)
 refine ⟨y,c8,?_,n8,g8⟩
 unfold zA1 J2
 rw [e1]
 simp only [bQ]
 rw [e2]
 simp only [bQ,t1,t2]
 rw [e3]
 simp only [bQ]
 rw [e4]
 simp only [bQ]
 rw [e5]
 simp only [bQ]
 rw [show ZZ 1048800 1048800 0 ys c4.b c4.i c4.h = _ from e6]
 simp only [bQ]
 rw [show zG 1048800 ⟨c6.b,c6.i,c6.h⟩ (IntKind.wrap .i64 (z + 1)) = _ from e7]
 simp only [bQ]
 rw [show QZ 1048800 1048800 v7 c7.b c7.i c7.h zs ls [] = _ from e8]
 rfl
theorem zKk (n : Nat) (v : Vec) (h1 : 1 ≤ v.Root ∧ v.Root ≤ 99) (h2 : 0 ≤ v.Co ∧ v.Co ≤ 100000) (h3 : 0 ≤ v.Hops ∧ v.Hops ≤ 10) (h4 : 1 ≤ v.Bridge ∧ v.Bridge ≤ 99) (h5 : 0 ≤ v.Port ∧ v.Port ≤ 7) : zo n v = some true := by
 unfold zo
 simp only [zP,bQ,tQ h1.1,tQ h1.2,tQ h2.1,tQ h2.2,tQ h3.1,tQ h3.2,tQ h4.1,tQ h4.2,tQ h5.1,tQ h5.2,Bool.and_self,cQ]
theorem zFm (n : Nat) (c : Src) (h : c.ok) : ∃ v c',zAY n c = some (v,c') ∧ zo n v = some true ∧ c'.ok := by
 obtain ⟨v1,c1,e1,a1,b1,g1⟩ := zF n c 5 h
 obtain ⟨v2,c2,e2,a2,g2⟩ := za n c1 [0,1,2,5,10,100] g1 (by decide)
 obtain ⟨v3,c3,e3,a3,g3⟩ := za n c2 [0,1,2,9,10] g2 (by decide)
 obtain ⟨v4,c4,e4,a4,b4,g4⟩ := zF n c3 5 g3
 obtain ⟨v5,c5,e5,a5,b5,g5⟩ := zF n c4 4 g4
 have b1 := b1 (by decide)
 have b4 := b4 (by decide)
 have b5 := b5 (by decide)
 simp only [List.mem_cons,List.not_mem_nil,or_false] at a2 a3
 refine ⟨⟨1 + v1,v2,v3,1 + v4,v5⟩,c5,?_,zKk n _ (by simp only; omega) (by simp only; omega) (by simp only; omega) (by simp only; omega) (by simp only; omega),g5⟩
 unfold zAY
 simp only [e1,e2,e3,e4,e5,bQ]
 rw [wQ (z := 1 + v1),wQ (z := 1 + v4)]
theorem zBr (n : Nat) (p : Nat) (hp : p ≤ 1000) : ∀ (m k : Nat) (ys : List Pt) (c : Src),k ≤ p → p < m + k → ys.length = k → c.ok → (∀ q ∈ ys,qC n q = some true ∧ q.wf) → ∃ (ys' : List Pt) (c' : Src),qp n m p k ys c.b c.i c.h = some (.inl (ys',c'.b,c'.i,c'.h)) ∧ ys'.length = p ∧ c'.ok ∧ ∀ q ∈ ys',qC n q = some true ∧ q.wf
 | 0,k,ys,c,h1,h2,_,_,_ => by omega
 | m + 1,k,ys,c,h1,h2,h3,h4,h5 => by
  rw [qp]
  by_cases hk : k < p
  ·obtain ⟨v1,c1,e1,g1⟩ := J6 n c 4 h4
   obtain ⟨v2,c2,e2,a2,g2⟩ := za n c1 [1,1,2,5,10] g1 (by decide)
   obtain ⟨v3,c3,e3,g3⟩ := J6 n c2 4 g2
   obtain ⟨v4,c4,e4,o4,g4⟩ := zFm n c3 g3
   have hc : 1 ≤ v2 ∧ v2 ≤ 1000 := by
    simp only [List.mem_cons,List.not_mem_nil,or_false] at a2
    omega
   have w2 : zh v2 := zV (by omega) (by omega)
   have w4 := zCE n v4 o4
   have e1' : QC n (⟨c.b,c.i,c.h⟩ : Src) 4 = some (v1,c1) := e1
   have hlen : ∀ u : Pt,decide (ys.length + [u].length ≤ 268435456) = true := fun u => tQ (by rw [List.length_singleton]; omega)
   have ih := fun (u : Pt) c' hc (hu : qC n u = some true ∧ u.wf) => zBr n p hp m (k + 1) (ys ++ [u]) c' (by omega) (by omega) (by simp [h3]) hc (fun q hq => by
    rcases List.mem_append.1 hq with hq | hq
    ·exact h5 q hq
    ·rw [List.mem_singleton] at hq; subst hq; exact hu)
   have ok0 : ∀ up : Bool,qC n ⟨up,v2,false,⟨0,0,0,0,0⟩⟩ = some true ∧ (⟨up,v2,false,⟨0,0,0,0,0⟩⟩ : Pt).wf := fun up => ⟨zDu n v2 up hc,w2,zFM⟩
   simp only [zp hk,cQ,e1',e2,e3,e4,bQ,YF,hlen,vQ k]
   cases v1 with
   | false =>
    simp only [Bool.not_false,cQ]
    cases v3 with
    | false => simp only [Bool.not_false,cQ]; exact ih _ c4 g4 ⟨zDv n v2 v4 hc o4,w2,w4⟩
    | true => simp only [nQ,fQ]; exact ih _ c3 g3 (ok0 true)
   | true => simp only [nQ,fQ]; exact ih _ c2 g2 (ok0 false)
  ·have he : k = p := by omega
   rw [he,zf]
   exact ⟨ys,c,rfl,by omega,h4,h5⟩
theorem zM3 (e : zB) : ∀ (xs : List zB),(xs.Pairwise fun a b => Zx a b.Tag b.Mac) → (zBE e xs).Pairwise fun a b => Zx a b.Tag b.Mac
 | [],_ => by unfold zBE; exact List.pairwise_singleton _ _
 | v :: vs,h => by
  rw [List.pairwise_cons] at h
  unfold zBE
  by_cases h1 : Zx v e.Tag e.Mac
  ·rw [if_pos h1,List.pairwise_cons]
   refine ⟨fun w hw => ?_,zM3 e vs h.2⟩
   rcases zDr e vs w hw with rfl | hw
   ·exact h1
   ·exact h.1 w hw
  ·rw [if_neg h1]
   by_cases h2 : v.Tag = e.Tag ∧ v.Mac = e.Mac
   ·rw [if_pos h2,List.pairwise_cons]
    refine ⟨fun w hw => ?_,h.2⟩
    have := h.1 w hw
    unfold Zx at this ⊢
    rw [← h2.1,← h2.2]; exact this
   ·rw [if_neg h2,List.pairwise_cons,List.pairwise_cons]
    have hev : Zx e v.Tag v.Mac := by unfold Zx at h1 ⊢; omega
    refine ⟨fun w hw => ?_,h⟩
    rcases List.mem_cons.1 hw with rfl | hw
    ·exact hev
    ·have := h.1 w hw
     unfold Zx at this hev ⊢
     omega
theorem Ya.put {xs : List zB} (hx : Ya xs) (e : zB) (he : zGu e) (h : xs.length < 12 ∨ ∃ k,∃ hk : k < xs.length,xs[k].Tag = e.Tag ∧ xs[k].Mac = e.Mac) : Ya (zBE e xs) := by
 refine ⟨?_,fun v hv => ?_,zM3 e xs hx.2.2⟩
 ·rcases h with h | ⟨k,hk,k1,k2⟩
  ·have := zLz e xs; omega
  ·rw [zL0 e xs k hk (fun j i hij hj => List.pairwise_iff_getElem.1 hx.2.2 i j (by omega) hj hij) k1 k2,List.length_set]
   exact hx.1
 ·rcases zDr e xs v hv with rfl | hv
  ·exact he
  ·exact hx.2.1 v hv
theorem Ya.srt {xs : List zB} (hx : Ya xs) : ∀ (j i : Nat) (hij : i < j) (hj : j < xs.length),Zx (xs[i]'(by omega)) xs[j].Tag xs[j].Mac := fun j i hij hj => List.pairwise_iff_getElem.1 hx.2.2 i j (by omega) hj hij
theorem zGB (n : Nat) (v : zB) : ∃ b,ZR n v = some b ∧ (b = true ↔ zGu v) := by
 obtain ⟨b,hb⟩ := zDY n v
 refine ⟨b,hb,fun h => ?_,fun h => ?_⟩
 ·rw [h] at hb
  have := zGC n v hb
  exact this
 ·have := zGh n v h
  rw [hb] at this
  exact Option.some.inj this
theorem zF9 (n : Nat) (xs : List zB) (t a p : Int) (hx : Ya xs) (hn : 1048577 < n) : ∃ ys,zBA n xs t a p = some ys ∧ Ya ys ∧ (zGu ⟨t,a,p,0,false⟩ → ys = zBE ⟨t,a,p,0,false⟩ xs ∨ (ys = xs ∧ ((∃ k,∃ hk : k < xs.length,xs[k].Tag = t ∧ xs[k].Mac = a) ∨ xs.length = 12))) := by
 have h12 := hx.1
 have hcs : qu n xs = some xs := by unfold qu; rw [tQ (by simp; omega)]; rfl
 have hb := zCA n xs (by omega) hx
 obtain ⟨c,hc,hce⟩ := zGB n ⟨t,a,p,0,false⟩
 have hp := zGD n xs ⟨t,a,p,0,false⟩ (by omega) (by omega) hx.srt
 unfold zBA
 rcases zHT n xs t a (by omega) (by omega) with ⟨e,hne⟩ | ⟨k,hk,e,k1,k2⟩
 ·rw [e,bQ,hb,bQ,hc,bQ]
  cases c with
  | false => exact ⟨xs,by simp only [nQ,Bool.not_false,cQ,fQ,hcs,bQ],hx,fun he => absurd (hce.2 he) (by simp)⟩
  | true =>
   simp only [nQ,fQ,dQ (show ¬ (-1 : Int) ≥ 0 by omega),tQ (show (-1 : Int) < 0 by omega),cQ,hp,bQ,hcs]
   by_cases hf : 12 ≤ xs.length
   ·rw [tQ (show (xs.length : Int) ≥ 12 by omega)]
    exact ⟨xs,rfl,hx,fun _ => .inr ⟨rfl,.inr (by omega)⟩⟩
   ·rw [dQ (show ¬ (xs.length : Int) ≥ 12 by omega)]
    exact ⟨_,rfl,hx.put _ (hce.1 rfl) (.inl (by omega)),fun _ => .inl rfl⟩
 ·rw [e,bQ,hb,bQ,hc,bQ]
  cases c with
  | false => exact ⟨xs,by simp only [nQ,Bool.not_false,cQ,fQ,hcs,bQ],hx,fun he => absurd (hce.2 he) (by simp)⟩
  | true =>
   simp only [nQ,fQ,tQ (show ((k : Nat) : Int) ≥ 0 by omega),dQ (show ¬ ((k : Nat) : Int) < 0 by omega),cQ,hp,bQ,hcs,zI hk]
   cases xs[k].Sc with
   | true => exact ⟨xs,rfl,hx,fun _ => .inr ⟨rfl,.inl ⟨k,hk,k1,k2⟩⟩⟩
   | false => exact ⟨_,rfl,hx.put _ (hce.1 rfl) (.inr ⟨k,hk,k1,k2⟩),fun _ => .inl rfl⟩
theorem zEf (n : Nat) (xs : List zB) (t a p : Int) (hx : Ya xs) (hn : 1048577 < n) : ∃ ys b,Y1 n xs t a p = some (ys,b) ∧ Ya ys ∧ ∀ v ∈ ys,v ∈ xs ∨ v = ⟨t,a,p,0,true⟩ := by
 have h12 := hx.1
 have hcs : qu n xs = some xs := by unfold qu; rw [tQ (by simp; omega)]; rfl
 have hb := zCA n xs (by omega) hx
 obtain ⟨c,hc,hce⟩ := zGB n ⟨t,a,p,0,true⟩
 have hp := zGD n xs ⟨t,a,p,0,true⟩ (by omega) (by omega) hx.srt
 unfold Y1
 rw [hb,bQ,hc,bQ]
 cases c with
 | false => exact ⟨xs,false,by simp only [nQ,Bool.not_false,cQ,fQ,hcs,bQ],hx,fun v hv => .inl hv⟩
 | true =>
  simp only [nQ,fQ]
  rcases zHT n xs t a (by omega) (by omega) with ⟨e,hne⟩ | ⟨k,hk,e,k1,k2⟩
  ·rw [e]
   simp only [bQ,tQ (show (-1 : Int) < 0 by omega),cQ,hp,hcs]
   by_cases hf : 12 ≤ xs.length
   ·rw [tQ (show (xs.length : Int) ≥ 12 by omega)]
    exact ⟨xs,_,rfl,hx,fun v hv => .inl hv⟩
   ·rw [dQ (show ¬ (xs.length : Int) ≥ 12 by omega)]
    exact ⟨_,_,rfl,hx.put _ (hce.1 rfl) (.inl (by omega)),fun v hv => (zDr _ xs v hv).symm⟩
  ·rw [e]
   simp only [bQ,dQ (show ¬ ((k : Nat) : Int) < 0 by omega),fQ,hp]
   exact ⟨_,_,rfl,hx.put _ (hce.1 rfl) (.inr ⟨k,hk,k1,k2⟩),fun v hv => (zDr _ xs v hv).symm⟩
theorem zQI : ∀ z < 5,∀ p < 4,((qo 1048800 ((1 + z : Nat) : Int) ((1 + p : Nat) : Int)).any fun y => decide (y.Id = ((1 + z : Nat) : Int)) && (y.F.isEmpty && (decide (y.Pa = 0) && (decide (y.Wo = 0) && decide (y.Dr = 0))))) = true := by decide +kernel
theorem zDy (n : Nat) (c : Src) (h : c.ok) : ∃ v c',JL n c = some (v,c') ∧ (11 ≤ v ∧ v ≤ 14) ∧ c'.ok := by
 obtain ⟨v,c',e,hv,g⟩ := za n c [11,12,13,14] h (by decide)
 simp only [List.mem_cons,List.not_mem_nil,or_false] at hv
 unfold JL
 rw [e]
 exact ⟨v,c',rfl,by omega,g⟩
def PIn (q : Nat) (fs : List zB) : Prop := ∀ v ∈ fs,v.Sc = false → v.Port < q
def DrB (x : zA) : Prop := zU 1048800 x = some true ∧ x.wf ∧ x.sz ≤ 40 ∧ x.Dr = 0 ∧ Ya x.F ∧ VtG 1048800 x.Ps.length x.V ∧ (x.Ps.length ≤ 4 ∧ x.Tk ≤ 4 ∧ PIn x.Ps.length x.F)
theorem zEk (p : Nat) (r : Int × Src) (hr : r.1 = p) (hp : p ≤ 3) : ∀ (m k : Nat) (c : Src) (fs : List zB),k < m → k ≤ 1000 → c.ok → Ya fs ∧ PIn (1 + p) fs → ∃ (c' : Src) (zs : List zB),c'.ok ∧ (Ya zs ∧ PIn (1 + p) zs) ∧ QX 1048800 m r k c.b c.i c.h fs = some (.inl (c'.b,c'.i,c'.h,zs))
 | 0,k,c,fs,h,_,_,_ => by omega
 | m + 1,k,c,fs,h,h',hc,hf => by
  rw [QX]
  by_cases hk : (k : Int) > 0
  ·obtain ⟨v1,c1,e1,a1,b1,g1⟩ := zF 1048800 c 3 hc
   obtain ⟨v2,c2,e2,a2,g2⟩ := zDy 1048800 c1 g1
   obtain ⟨v3,c3,e3,a3,b3,g3⟩ := zF 1048800 c2 (IntKind.wrap .i64 (1 + r.1)) g2
   have b1 := b1 (by decide)
   have w1 : IntKind.wrap .i64 (1 + v1) = 1 + v1 := wQ
   have w3 : IntKind.wrap .i64 (1 + r.1) = ((1 + p : Nat) : Int) := by rw [hr,wQ]; omega
   have b3 := b3 (by rw [w3]; omega)
   rw [w3] at b3
   obtain ⟨ys,e4,f4,q4⟩ := zF9 1048800 fs (IntKind.wrap .i64 (1 + v1)) v2 v3 hf.1 (by omega)
   have q4 := q4 ⟨by simp only [w1]; omega,by simp only; omega,by simp only; omega,by simp only; omega,fun h => by cases h⟩
   have p4 : PIn (1 + p) ys := fun v hv hs => by
    rcases q4 with q4 | ⟨q4,_⟩
    ·rw [q4] at hv
     rcases zDr _ fs v hv with rfl | hv
     ·exact b3
     ·exact hf.2 v hv hs
    ·rw [q4] at hv
     exact hf.2 v hv hs
   rw [tQ hk,cQ,show zG 1048800 ⟨c.b,c.i,c.h⟩ 3 = _ from e1,bQ,e2,bQ,e3,bQ,e4,bQ,show IntKind.wrap .i64 ((k : Int) - 1) = ((k - 1 : Nat) : Int) from by rw [wQ]; omega]
   exact zEk p r hr hp m (k - 1) c3 ys (by omega) (by omega) g3 ⟨f4,p4⟩
  ·rw [dQ hk,fQ]
   exact ⟨c,fs,hc,hf,rfl⟩
theorem zJL (c : Src) (hc : c.ok) : ∃ x c',zA0 1048800 c = some (x,c') ∧ DrB x ∧ c'.ok := by
 obtain ⟨v1,c1,e1,a1,b1,g1⟩ := zF 1048800 c 4 hc
 obtain ⟨v2,c2,e2,a2,b2,g2⟩ := zF 1048800 c1 5 g1
 have b1 := b1 (by decide)
 have b2 := b2 (by decide)
 obtain ⟨v1,rfl⟩ := Int.eq_ofNat_of_zero_le a1
 obtain ⟨v2,rfl⟩ := Int.eq_ofNat_of_zero_le a2
 have t1 : IntKind.wrap .i64 (1 + (v1 : Int)) = ((1 + v1 : Nat) : Int) := by rw [wQ]; omega
 have t2 : IntKind.wrap .i64 (1 + (v2 : Int)) = ((1 + v2 : Nat) : Int) := by rw [wQ]; omega
 obtain ⟨y,ey,hy⟩ : ∃ y,qo 1048800 ((1 + v2 : Nat) : Int) ((1 + v1 : Nat) : Int) = some y ∧ y.Id = ((1 + v2 : Nat) : Int) ∧ y.F = [] ∧ y.Pa = 0 ∧ y.Wo = 0 ∧ y.Dr = 0 := by
  have := zQI v2 (by omega) v1 (by omega)
  cases hb : qo 1048800 ((1 + v2 : Nat) : Int) ((1 + v1 : Nat) : Int) with
  | none => rw [hb] at this; cases this
  | some y =>
   rw [hb] at this
   simp only [Option.any_some,Bool.and_eq_true,decide_eq_true_eq,List.isEmpty_iff] at this
   exact ⟨y,rfl,this.1,this.2.1,this.2.2.1,this.2.2.2.1,this.2.2.2.2⟩
 obtain ⟨y1,y2,y3,y4,y5⟩ := hy
 obtain ⟨nm,c3,e3,hnm,g3⟩ : ∃ nm c',JK 1048800 c2 [(⟨#[]⟩ : ByteArray),(⟨#[121,97,114,100]⟩ : ByteArray),(⟨#[98,49]⟩ : ByteArray)] = some (nm,c') ∧ nm.size ≤ 4 ∧ c'.ok := by
  obtain ⟨v,c',e,a,b,g⟩ := zF 1048800 c2 (([(⟨#[]⟩ : ByteArray),(⟨#[121,97,114,100]⟩ : ByteArray),(⟨#[98,49]⟩ : ByteArray)].length : Nat) : Int) g2
  have b := b (by decide)
  obtain ⟨v,rfl⟩ := Int.eq_ofNat_of_zero_le a
  have b : v < 3 := by simp only [List.length_cons,List.length_nil] at b; omega
  unfold JK
  rw [e]
  have : v = 0 ∨ v = 1 ∨ v = 2 := by omega
  rcases this with rfl | rfl | rfl
  ·exact ⟨_,c',rfl,by decide,g⟩
  ·exact ⟨_,c',rfl,by decide,g⟩
  ·exact ⟨_,c',rfl,by decide,g⟩
 obtain ⟨ps,c4,e4,l4,g4,w4⟩ := zBr 1048800 (1 + v1) (by omega) 1048800 0 [] c3 (by omega) (by omega) rfl g3 (fun q hq => by cases hq)
 obtain ⟨vt,c5,e5,g5,h5⟩ := zGE (1 + v1) (by omega) (by omega) c4 g4
 obtain ⟨v6,c6,e6,a6,b6,g6⟩ := zF 1048800 c5 6 h5
 have b6 := b6 (by decide)
 obtain ⟨v6,rfl⟩ := Int.eq_ofNat_of_zero_le a6
 obtain ⟨c7,fs,g7,f7,e7⟩ := zEk v1 ((v1 : Int),c1) rfl (by omega) 1048800 v6 c6 [] (by omega) (by omega) g6 ⟨⟨Nat.zero_le _,(fun v hv => by cases hv),List.Pairwise.nil⟩,fun v hv => by cases hv⟩
 have j2 : ∀ (fs : List zB) (c : Src),Ya fs ∧ PIn (1 + v1) fs → c.ok → ∃ x c',YG 1048800 y (nm,c3) (ps,c4) (vt,c5) c.b c.i c.h fs = some (x,c') ∧ DrB x ∧ c'.ok := fun fs c hf hc => by
  obtain ⟨u1,d1,k1,m1,n1,o1⟩ := zF 1048800 c 5 hc
  have n1 := n1 (by decide)
  obtain ⟨u2,d2,k2,m2,o2⟩ := za 1048800 d1 [0,1,5,1000000] o1 (by decide)
  simp only [List.mem_cons,List.not_mem_nil,or_false] at m2
  have hvs := g5.sz
  obtain ⟨hf,hf2⟩ := hf
  have h12 := hf.1
  refine ⟨⟨y.Id,nm,ps,fs,vt,u1,y.Pa,y.Wo,y.Dr,u2⟩,d2,?_,⟨?_,?_,?_,y5,hf,by simp only; rw [l4]; exact g5,by simp only; omega,by simp only; omega,by simp only; rw [l4]; exact hf2⟩,o2⟩
  ·unfold YG
   rw [show zG 1048800 ⟨c.b,c.i,c.h⟩ 5 = _ from k1,bQ,k2]
   rfl
  ·refine zAC 1048800 _ (by simp only; omega) (by simp only; omega) (by simp only; omega) (by simp only; omega) (by simp only; omega) (by simp only; omega) (zCA 1048800 fs (by omega) hf) ?_ ⟨m1,by simp only; omega⟩ (by simp only; omega) (by simp only; omega) (by simp only; omega) ?_ (fun j hj => (w4 _ (List.getElem_mem hj)).1)
   ·simp only; rw [l4]; exact g5.2.2.2.1
   ·simp only; omega
  ·have z0 : zh 0 := zV (by omega) (by omega)
   have hm : maxLen = 9223372036854775807 := by decide
   refine ⟨by simp only; rw [y1]; exact zV (by omega) (by omega),by simp only; omega,⟨by simp only; omega,fun q hq => (w4 q hq).2⟩,⟨by simp only; omega,fun v hv => zJe (hf.2.1 v hv)⟩,g5.1.1,g5.1.2.1,iQ (z := u1),by simp only; rw [y3]; exact z0,by simp only; rw [y4]; exact z0,by simp only; rw [y5]; exact z0,iQ (z := u2),trivial⟩
  ·show nm.size + ps.length + fs.length + vt.sz ≤ 40
   omega
 have j1 : ∃ x c',Y3 1048800 ((v1 : Int),c1) y (nm,c3) (ps,c4) (vt,c5) c7.b c7.i c7.h fs = some (x,c') ∧ DrB x ∧ c'.ok := by
  unfold Y3
  obtain ⟨u1,d1,k1,o1⟩ := J6 1048800 c7 3 g7
  rw [show QC 1048800 ⟨c7.b,c7.i,c7.h⟩ 3 = _ from k1,bQ]
  cases u1 with
  | false => exact j2 fs d1 f7 o1
  | true =>
   obtain ⟨u2,d2,k2,m2,o2⟩ := zDy 1048800 d1 o1
   obtain ⟨u3,d3,k3,m3,n3,o3⟩ := zF 1048800 d2 (IntKind.wrap .i64 (1 + (v1 : Int))) o2
   obtain ⟨ys,b,k4,f4,q4⟩ := zEf 1048800 fs 1 u2 u3 f7.1 (by omega)
   simp only [cQ,k2,k3,k4,bQ]
   exact j2 ys d3 ⟨f4,fun v hv hs => by
    rcases q4 v hv with h | rfl
    ·exact f7.2 v h hs
    ·cases hs⟩ o3
 obtain ⟨x,c8,e8,h8⟩ := j1
 refine ⟨x,c8,?_,h8⟩
 have e4' : YT 1048800 c3 ((1 + v1 : Nat) : Int) = some (ps,c4) := by
  unfold YT
  rw [show qp 1048800 1048800 ((1 + v1 : Nat) : Int) 0 ([] : List Pt) c3.b c3.i c3.h = _ from e4]
  rfl
 unfold zA0
 simp only [e1,bQ,e2,t1,t2,ey,e3,e4',e5,e6,y2]
 rw [show QX 1048800 1048800 ((v1 : Int),c1) v6 c6.b c6.i c6.h [] = _ from e7]
 exact e8
def lx2 (a b : Int × Int) : Prop := a.1 < b.1 ∨ (a.1 = b.1 ∧ a.2 < b.2)
instance (a b : Int × Int) : Decidable (lx2 a b) := inferInstanceAs (Decidable (_ ∨ _))
def le4 (a b : Int × Int × Int × Int) : Prop := a.1 < b.1 ∨ (a.1 = b.1 ∧ (a.2.1 < b.2.1 ∨ (a.2.1 = b.2.1 ∧ (a.2.2.1 < b.2.2.1 ∨ (a.2.2.1 = b.2.2.1 ∧ a.2.2.2 ≤ b.2.2.2)))))
def zNo (v : Int × Int × Int) (w : Int) : Prop := v.2.1 + w ≤ 100000 ∧ v.2.2 + 1 ≤ 10
theorem le4.trans {a b c : Int × Int × Int × Int} (h1 : le4 a b) (h2 : le4 b c) : le4 a c := by
 unfold le4 at *
 omega
theorem le4.rfl' (a : Int × Int × Int × Int) : le4 a a := by
 unfold le4
 omega
theorem zMq (n : Nat) (v : Vec) (h : zo n v = some true) : (1 ≤ v.Root ∧ v.Root ≤ 99) ∧ (0 ≤ v.Co ∧ v.Co ≤ 100000) ∧ (0 ≤ v.Hops ∧ v.Hops ≤ 10) ∧ (1 ≤ v.Bridge ∧ v.Bridge ≤ 99) ∧ (0 ≤ v.Port ∧ v.Port ≤ 7) := by
 unfold zo at h
 simp only [zP,bQ] at h
 cases h1 : (decide (1 ≤ v.Root) && decide (v.Root ≤ 99)) with
 | false => rw [h1] at h; cases h
 | true =>
  cases h2 : (decide (0 ≤ v.Co) && decide (v.Co ≤ 100000)) with
  | false => rw [h1,h2] at h; cases h
  | true =>
   cases h3 : (decide (0 ≤ v.Hops) && decide (v.Hops ≤ 10)) with
   | false => rw [h1,h2,h3] at h; cases h
   | true =>
    cases h4 : (decide (1 ≤ v.Bridge) && decide (v.Bridge ≤ 99)) with
    | false => rw [h1,h2,h3,h4] at h; cases h
    | true =>
     rw [h1,h2,h3,h4] at h
     simp only [cQ,Option.some.injEq,Bool.and_eq_true,decide_eq_true_eq] at h h1 h2 h3 h4
     exact ⟨h1,h2,h3,h4,h⟩
structure AgN (N : Nat) (ids : Nat → Int) (V : Nat → Int × Int × Int) (rp : Nat → Int) (Ed : Nat → Nat → Int → Int → Nat → Int → Prop) : Prop where
 n6 : N ≤ 6
 inj : ∀ i j,i < N → j < N → ids i = ids j → i = j
 rng : ∀ k i p w j q,Ed k i p w j q → i < N ∧ j < N ∧ i ≠ j ∧ 1 ≤ w ∧ w ≤ 1000 ∧ 0 ≤ p
 sym : ∀ k i p w j q,Ed k i p w j q → ∃ w',Ed k j q w' i p
 two : ∀ k i p w j q i' p' w' j' q',Ed k i p w j q → Ed k i' p' w' j' q' → (i' = i ∧ p' = p ∧ w' = w ∧ j' = j ∧ q' = q) ∨ (i' = j ∧ p' = q ∧ j' = i ∧ q' = p)
 one : ∀ k k' i p w j q w' j' q',Ed k i p w j q → Ed k' i p w' j' q' → k' = k
 hop : ∀ i,i < N → 0 ≤ (V i).2.2
 know : ∀ i,i < N → (rp i < 0 ∧ V i = (ids i,0,0) ∧ ∀ k p w j q,Ed k i p w j q → zNo (V j) w → ids i ≤ (V j).1) ∨
  ∃ k w j q,Ed k i (rp i) w j q ∧ (V j).1 < ids i ∧ V i = ((V j).1,(V j).2.1 + w,(V j).2.2 + 1) ∧ ∀ k' p' w' j' q',Ed k' i p' w' j' q' → zNo (V j') w' → (V j').1 < ids i → (V j).1 ≤ (V j').1
theorem AgN.upA {N ids V rp Ed} (h : AgN N ids V rp Ed) {k i w j q} (e : Ed k i (rp i) w j q) : V i = ((V j).1,(V j).2.1 + w,(V j).2.2 + 1) := by
 have r := h.rng _ _ _ _ _ _ e
 rcases h.know i r.1 with ⟨e0,_⟩ | ⟨k',w',j',q',e',e2,e3,_⟩
 ·omega
 ·have := h.one _ _ _ _ _ _ _ _ _ _ e e'
  subst this
  rcases h.two _ _ _ _ _ _ _ _ _ _ _ e e' with ⟨_,_,rfl,rfl,_⟩ | ⟨a,_⟩
  ·exact e3
  ·exact absurd a r.2.2.1
inductive zC3 (rp : Nat → Int) (Ed : Nat → Nat → Int → Int → Nat → Int → Prop) (c : Nat) : Nat → Prop
 | self : zC3 rp Ed c c
 | step (k i : Nat) (w : Int) (j : Nat) (q : Int) : Ed k i (rp i) w j q → zC3 rp Ed c j → zC3 rp Ed c i
theorem AgN.behindT {N ids V rp Ed} (h : AgN N ids V rp Ed) {c i : Nat} (b : zC3 rp Ed c i) : (V c).2.2 ≤ (V i).2.2 := by
 induction b with
 | self => exact Int.le_refl _
 | step k i w j q e _ ih =>
  have := congrArg (·.2.2) (h.upA e)
  simp only at this
  omega
theorem AgN.apart {N ids V rp Ed} (h : AgN N ids V rp Ed) {k c w d q} (e : Ed k c (rp c) w d q) : zC3 rp Ed c c ∧ ¬ zC3 rp Ed c d ∧ ∀ k' i p w' j q',k' ≠ k → Ed k' i p w' j q' → rp i = p → (zC3 rp Ed c i ↔ zC3 rp Ed c j) := by
 refine ⟨.self,fun b => ?_,fun k' i p w' j q' hk e' hp => ⟨fun b => ?_,fun b => ?_⟩⟩
 ·have := h.behindT b
  have := congrArg (·.2.2) (h.upA e)
  simp only at this
  omega
 ·subst hp
  cases b with
  | self => exact absurd (h.one _ _ _ _ _ _ _ _ _ _ e e') hk
  | step k2 _ w2 j2 q2 e2 b =>
   have := h.one _ _ _ _ _ _ _ _ _ _ e' e2
   subst this
   rcases h.two _ _ _ _ _ _ _ _ _ _ _ e' e2 with ⟨_,_,_,rfl,_⟩ | ⟨a,_⟩
   ·exact b
   ·exact absurd a (h.rng _ _ _ _ _ _ e').2.2.1
 ·subst hp
  exact .step _ _ _ _ _ e' b
def zMK (v : Vec) : Prop := (-1 ≤ v.Root ∧ v.Root ≤ 100) ∧ (-1 ≤ v.Co ∧ v.Co ≤ 100001) ∧ (-1 ≤ v.Hops ∧ v.Hops ≤ 11) ∧ (-1 ≤ v.Bridge ∧ v.Bridge ≤ 99) ∧ (-1 ≤ v.Port ∧ v.Port ≤ 8)
theorem zE5 (n : Nat) (c : Src) (h : c.ok) : ∃ v c',zBB n c = some (v,c') ∧ zMK v ∧ c'.ok := by
 obtain ⟨v1,c1,e1,w1,h1⟩ := zFm n c h
 obtain ⟨p1,p2,p3,p4,p5⟩ := zMq n v1 w1
 obtain ⟨v2,c2,e2,a2,b2,h2⟩ := zF n c1 12 h1
 obtain ⟨v3,c3,e3,a3,h3⟩ := za n c2 [0,99,100] h2 (by decide)
 obtain ⟨v4,c4,e4,a4,h4⟩ := za n c2 [(-1),99999,100000,100001] h2 (by decide)
 obtain ⟨v5,c5,e5,a5,h5⟩ := za n c2 [(-1),11] h2 (by decide)
 obtain ⟨v6,c6,e6,a6,h6⟩ := za n c2 [(-1),7,8] h2 (by decide)
 simp only [List.mem_cons,List.not_mem_nil,or_false] at a3 a4 a5 a6
 unfold zBB
 simp only [e1,e2,e3,e4,e5,e6,bQ]
 cases (v2 == 0) with
 | true => exact ⟨_,_,rfl,⟨by simp only; omega,by simp only; omega,by simp only; omega,by simp only; omega,by simp only; omega⟩,h3⟩
 | false =>
 cases (v2 == 1) with
 | true => exact ⟨_,_,rfl,⟨by simp only; omega,by simp only; omega,by simp only; omega,by simp only; omega,by simp only; omega⟩,h4⟩
 | false =>
 cases (v2 == 2) with
 | true => exact ⟨_,_,rfl,⟨by simp only; omega,by simp only; omega,by simp only; omega,by simp only; omega,by simp only; omega⟩,h5⟩
 | false =>
 cases (v2 == 3) with
 | true => exact ⟨_,_,rfl,⟨by simp only; omega,by simp only; omega,by simp only; omega,by simp only; omega,by simp only; omega⟩,h6⟩
 | false => exact ⟨_,_,rfl,⟨by omega,by omega,by omega,by omega,by omega⟩,h2⟩
theorem zMK.wf {v : Vec} (h : zMK v) (u : Bool) (c : Int) (b : Bool) (hc : -1000000 ≤ c) (hc' : c ≤ 1000000) : (⟨u,c,b,v⟩ : Pt).wf := by
 obtain ⟨p1,p2,p3,p4,p5⟩ := h
 exact ⟨zV hc hc',iQ (z := v.Root),iQ (z := v.Co),iQ (z := v.Hops),iQ (z := v.Bridge),iQ (z := v.Port),trivial⟩
theorem zJ6 (n : Nat) (c : Src) (h : c.ok) (hn : 1000 < n) : ∃ ys c',zBq n c = some (ys,c') ∧ (1 ≤ ys.length ∧ ys.length ≤ 4) ∧ (∀ q ∈ ys,q.wf) ∧ c'.ok := by
 obtain ⟨v1,c1,e1,a1,b1,g1⟩ := zF n c 4 h
 have b1 := b1 (by omega)
 obtain ⟨v1,rfl⟩ := Int.eq_ofNat_of_zero_le a1
 obtain ⟨ys,c2,e2,l2,g2,w2⟩ := zBr n (1 + v1) (by omega) n 0 [] c1 (by omega) (by omega) rfl g1 (fun q hq => by cases hq)
 have e2 : YT n c1 (IntKind.wrap .i64 (1 + (v1 : Int))) = some (ys,c2) := by
  rw [show IntKind.wrap .i64 (1 + (v1 : Int)) = ((1 + v1 : Nat) : Int) from by rw [wQ]; omega]
  unfold YT
  rw [show qp n n ((1 + v1 : Nat) : Int) 0 ([] : List Pt) c1.b c1.i c1.h = _ from e2]
  rfl
 obtain ⟨v3,c3,e3,a3,b3,g3⟩ := zF n c2 12 g2
 obtain ⟨v4,c4,e4,s4,g4⟩ := zE5 n c3 g3
 obtain ⟨v5,c5,e5,a5,g5⟩ := za n c3 [0,1000,1001] g3 (by decide)
 simp only [List.mem_cons,List.not_mem_nil,or_false] at a5
 have h0 : 0 < ys.length := by omega
 have hu : idx ys 0 = some ys[0] := zI h0
 have wu := (w2 _ (List.getElem_mem h0)).2
 have pu := (zBP n _ (w2 _ (List.getElem_mem h0)).1).1
 obtain ⟨q1,q2⟩ := wu
 unfold zBq
 simp only [e1,bQ,e2,e3,e4,e5,hu]
 have hset : ∀ u : Pt,u.wf → ∀ q ∈ ys.set ((0 : Int)).toNat u,q.wf := fun u hu q hq => by
  rcases List.mem_or_eq_of_mem_set hq with h | h
  ·exact (w2 q h).2
  ·rw [h]; exact hu
 have hs : ∀ u : Pt,1 ≤ (ys.set ((0 : Int)).toNat u).length ∧ (ys.set ((0 : Int)).toNat u).length ≤ 4 := fun u => by rw [List.length_set]; omega
 cases (v3 == 0) with
 | true => exact ⟨_,_,rfl,hs _,hset _ (s4.wf _ _ _ (by omega) (by omega)),g4⟩
 | false =>
 cases (v3 == 1) with
 | true => exact ⟨_,_,rfl,hs _,hset _ ⟨iQ (z := v5),q2⟩,g5⟩
 | false =>
 cases (v3 == 2) with
 | true => exact ⟨_,_,rfl,hs _,hset _ ⟨q1,q2⟩,g3⟩
 | false => exact ⟨_,_,rfl,by omega,fun q hq => (w2 q hq).2,g3⟩
theorem zE7 (n : Nat) (hn : 1048577 < n) : ∀ (m k : Nat) (fs : List zB) (c : Src),k < m → k ≤ 1000 → c.ok → Ya fs → ∃ (zs : List zB) (c' : Src),c'.ok ∧ Ya zs ∧ Zs n m k fs c.b c.i c.h = some (.inl (zs,c'.b,c'.i,c'.h))
 | 0,k,fs,c,h,_,_,_ => by omega
 | m + 1,k,fs,c,h,h',hc,hf => by
  rw [Zs]
  by_cases hk : (k : Int) > 0
  ·obtain ⟨v1,c1,e1,a1,b1,g1⟩ := zF n c 6 hc
   rw [tQ hk,cQ,show zG n ⟨c.b,c.i,c.h⟩ 6 = _ from e1,bQ,show IntKind.wrap .i64 ((k : Int) - 1) = ((k - 1 : Nat) : Int) from by rw [wQ]; omega]
   have ih := fun zs c' hc' hf' => zE7 n hn m (k - 1) zs c' (by omega) (by omega) hc' hf'
   obtain ⟨v2,c2,e2,a2,b2,g2⟩ := zF n c1 3 g1
   obtain ⟨v3,c3,e3,a3,g3⟩ := zDy n c2 g2
   cases (v1 == 0) with
   | true =>
    obtain ⟨v4,c4,e4,a4,b4,g4⟩ := zF n c3 4 g3
    obtain ⟨ys,b,e5,f5,_⟩ := zEf n fs (IntKind.wrap .i64 (1 + v2)) v3 v4 hf hn
    simp only [cQ,e2,e3,e4,e5,bQ]
    exact ih ys c4 g4 f5
   | false =>
   cases (v1 == 1) with
   | true =>
    simp only [cQ,fQ,zC0 n fs hf (by omega),bQ]
    exact ih _ c1 g1 hf.age
   | false =>
    obtain ⟨v4,c4,e4,a4,b4,g4⟩ := zF n c3 3 g3
    obtain ⟨v5,c5,e5,a5,b5,g5⟩ := zF n c4 4 g4
    obtain ⟨ys,e6,f6,_⟩ := zF9 n fs (IntKind.wrap .i64 (1 + v2)) (IntKind.wrap .i64 (v3 + v4)) v5 hf hn
    simp only [fQ,e2,e3,e4,e5,e6,bQ]
    exact ih ys c5 g5 f6
  ·rw [dQ hk,fQ]
   exact ⟨fs,c,hc,hf,rfl⟩
theorem zKF (n : Nat) (hn : 1048577 < n) (c : Src) (hc : c.ok) : ∃ (zs : List zB) (c' : Src),zBu n c = some (zs,c') ∧ Ya zs ∧ c'.ok := by
 obtain ⟨v,c1,e1,a1,b1,g1⟩ := zF n c 10 hc
 have b1 := b1 (by decide)
 obtain ⟨v,rfl⟩ := Int.eq_ofNat_of_zero_le a1
 obtain ⟨zs,c2,g2,f2,e2⟩ := zE7 n hn n v [] c1 (by omega) (by omega) g1 ⟨Nat.zero_le _,(fun v hv => by cases hv),List.Pairwise.nil⟩
 refine ⟨zs,c2,?_,f2,g2⟩
 unfold zBu
 rw [e1,bQ,show Zs n n v ([] : List zB) c1.b c1.i c1.h = _ from e2]
 rfl
def zEb (v : zB) : Prop := (0 ≤ v.Tag ∧ v.Tag ≤ 100) ∧ (0 ≤ v.Mac ∧ v.Mac ≤ 9999) ∧ (-1 ≤ v.Port ∧ v.Port ≤ 8) ∧ (-1 ≤ v.Age ∧ v.Age ≤ 5)
theorem zEb.of {v : zB} (h : zGu v) : zEb v := by
 obtain ⟨a,b,c,d,_⟩ := h
 exact ⟨by omega,by omega,by omega,by omega⟩
theorem zEb.wf {v : zB} (h : zEb v) : v.wf := by
 obtain ⟨a,b,c,d⟩ := h
 exact ⟨iQ (z := v.Tag),iQ (z := v.Mac),iQ (z := v.Port),iQ (z := v.Age),trivial⟩
theorem zFn (n : Nat) : ∀ (m k : Nat) (fs : List zB) (c : Src),14 < m + k → k ≤ 13 → fs.length ≤ 12 + k → c.ok → (∀ v ∈ fs,zEb v) → ∃ (zs : List zB) (c' : Src),c'.ok ∧ zs.length ≤ 25 ∧ (∀ v ∈ zs,zEb v) ∧ YW n m k fs c.b c.i c.h = some (.inl (zs,c'.b,c'.i,c'.h))
 | 0,k,fs,c,h,_,_,_,_ => by omega
 | m + 1,k,fs,c,h,h',hl,hc,hf => by
  rw [YW]
  obtain ⟨v1,c1,e1,a1,b1,g1⟩ := zF n c 3 hc
  have b1 := b1 (by decide)
  rw [show zG n ⟨c.b,c.i,c.h⟩ 3 = _ from e1,bQ,wQ (z := 11 + v1)]
  by_cases hk : (k : Int) < 11 + v1
  ·rw [tQ hk,cQ,tQ (by simp; omega),cQ,vQ k,wQ (z := 100 + (k : Int))]
   exact zFn n m (k + 1) _ c1 (by omega) (by omega) (by simp; omega) g1 fun v hv => by
    rcases List.mem_append.1 hv with hv | hv
    ·exact hf v hv
    ·rw [List.mem_singleton.1 hv]
     exact ⟨by simp only; omega,by simp only; omega,by simp only; omega,by simp only; omega⟩
  ·rw [dQ hk,fQ]
   exact ⟨fs,c1,g1,by omega,hf,rfl⟩
theorem zKt (n : Nat) (hn : 1048577 < n) (c : Src) (hc : c.ok) : ∃ (zs : List zB) (c' : Src),zCb n c = some (zs,c') ∧ zs.length ≤ 25 ∧ (∀ v ∈ zs,zEb v) ∧ c'.ok := by
 obtain ⟨fs,c1,e1,f1,g1⟩ := zKF n hn c hc
 obtain ⟨v2,c2,e2,a2,b2,g2⟩ := zF n c1 12 g1
 obtain ⟨v3,c3,e3,a3,g3⟩ := za n c2 [0,1,99,100] g2 (by decide)
 obtain ⟨v4,c4,e4,a4,g4⟩ := za n c3 [0,1,9999] g3 (by decide)
 obtain ⟨v5,c5,e5,a5,g5⟩ := za n c4 [(-1),7,8] g4 (by decide)
 obtain ⟨v6,c6,e6,a6,g6⟩ := za n c5 [(-1),4,5] g5 (by decide)
 simp only [List.mem_cons,List.not_mem_nil,or_false] at a3 a4 a5 a6
 have h12 := f1.1
 have sm : ∀ v ∈ fs,zEb v := fun v hv => .of (f1.2.1 v hv)
 obtain ⟨zs,c7,g7,l7,s7,e7⟩ := zFn n n 0 fs c2 (by omega) (by omega) (by omega) g2 sm
 unfold zCb
 simp only [e1,e2,e3,e4,e5,e6,bQ]
 cases (v2 == 0) with
 | true =>
  rw [cQ,tQ (by simp; omega),cQ]
  refine ⟨_,_,rfl,by simp; omega,fun v hv => ?_,g6⟩
  rcases List.mem_append.1 hv with hv | hv
  ·exact sm v hv
  ·rw [List.mem_singleton.1 hv]
   exact ⟨by simp only; omega,by simp only; omega,by simp only; omega,by simp only; omega⟩
 | false =>
 cases (v2 == 1) with
 | true =>
  rw [fQ,cQ,show YW n n 0 fs c2.b c2.i c2.h = _ from e7]
  exact ⟨zs,c7,rfl,l7,s7,g7⟩
 | false => exact ⟨fs,c2,rfl,by omega,sm,g2⟩
theorem zL1 {z : Int} (h0 : -1000000000 ≤ z) (h1 : z ≤ 1000000000) : zh z := by
 show (Lit.int .i64 z).wf = true
 simp [Lit.wf,show IntKind.wrap .i64 z = z from wQ]
 exact ⟨by show (-9223372036854775808 : Int) ≤ z; omega,by omega⟩
theorem zJ7 (c : Src) (hc : c.ok) : ∃ x c',zBs 1048800 c = some (x,c') ∧ x.wf ∧ x.sz ≤ 1100 ∧ c'.ok := by
 obtain ⟨x,c1,e1,h1,g1⟩ := zJL c hc
 obtain ⟨v2,c2,e2,a2,b2,g2⟩ := zF 1048800 c1 16 g1
 obtain ⟨v3,c3,e3,a3,g3⟩ := za 1048800 c2 [0,99,100] g2 (by decide)
 obtain ⟨nm,c4,e4,hnm,g4⟩ : ∃ nm c',JK 1048800 c2 [(⟨#[116,101,110,45,98,121,116,101,115,45]⟩ : ByteArray),(⟨#[101,108,101,118,101,110,45,98,121,116,101]⟩ : ByteArray)] = some (nm,c') ∧ nm.size ≤ 11 ∧ c'.ok := by
  obtain ⟨v,c',e,a,b,g⟩ := zF 1048800 c2 (([(⟨#[116,101,110,45,98,121,116,101,115,45]⟩ : ByteArray),(⟨#[101,108,101,118,101,110,45,98,121,116,101]⟩ : ByteArray)].length : Nat) : Int) g2
  have b := b (by decide)
  obtain ⟨v,rfl⟩ := Int.eq_ofNat_of_zero_le a
  have b : v < 2 := by simp only [List.length_cons,List.length_nil] at b; omega
  unfold JK
  rw [e]
  have : v = 0 ∨ v = 1 := by omega
  rcases this with rfl | rfl
  ·exact ⟨_,c',rfl,by decide,g⟩
  ·exact ⟨_,c',rfl,by decide,g⟩
 obtain ⟨ps,c5,e5,l5,w5,g5⟩ := zJ6 1048800 c2 g2 (by omega)
 obtain ⟨fs,c6,e6,l6,w6,g6⟩ := zKt 1048800 (by omega) c2 g2
 obtain ⟨vt,p7,c7,e7,w7,_,g7⟩ := zKu c2 g2
 have s7 := w7.sz
 obtain ⟨v8,c8,e8,a8,g8⟩ := za 1048800 c2 [(-1),1000000,1000001] g2 (by decide)
 simp only [List.mem_cons,List.not_mem_nil,or_false] at a3 a8
 have hs : x.Name.size + x.Ps.length + x.F.length + x.V.sz = x.sz := rfl
 have h40 := h1.2.2.1
 have hm : maxLen = 9223372036854775807 := by decide
 obtain ⟨i1,i2,i3,i4,i5,i6,i7,i8,i9,i10,i11,_⟩ := h1.2.1
 unfold zBs
 simp only [e1,e2,e3,e4,e5,e6,e7,e8,bQ]
 cases (v2 == 0) with
 | true => exact ⟨_,_,rfl,⟨iQ (z := v3),i2,i3,i4,i5,i6,i7,i8,i9,i10,i11,trivial⟩,by simp only [zA.sz]; omega,g3⟩
 | false =>
 cases (v2 == 1) with
 | true => exact ⟨_,_,rfl,⟨i1,by simp only; omega,i3,i4,i5,i6,i7,i8,i9,i10,i11,trivial⟩,by simp only [zA.sz]; omega,g4⟩
 | false =>
 cases (v2 == 2) with
 | true => exact ⟨_,_,rfl,⟨i1,i2,⟨by simp only; omega,w5⟩,i4,i5,i6,i7,i8,i9,i10,i11,trivial⟩,by simp only [zA.sz]; omega,g5⟩
 | false =>
 cases (v2 == 3) with
 | true => exact ⟨_,_,rfl,⟨i1,i2,i3,⟨by simp only; omega,fun v hv => (w6 v hv).wf⟩,i5,i6,i7,i8,i9,i10,i11,trivial⟩,by simp only [zA.sz]; omega,g6⟩
 | false =>
 cases (v2 == 4) with
 | true => exact ⟨_,_,rfl,⟨i1,i2,i3,i4,w7.1.1,w7.1.2.1,i7,i8,i9,i10,i11,trivial⟩,by simp only [zA.sz]; omega,g7⟩
 | false =>
 cases (v2 == 5) with
 | true => exact ⟨_,_,rfl,⟨i1,i2,i3,i4,i5,i6,i7,i8,i9,(zL1 (z := v8) (by omega) (by omega)),i11,trivial⟩,by simp only [zA.sz]; omega,g8⟩
 | false => exact ⟨_,_,rfl,⟨i1,i2,i3,i4,i5,i6,i7,i8,i9,i10,i11,trivial⟩,by omega,g2⟩
theorem zLG {n : Nat} {x : Net} (hx : qN n x) (i : Nat) (v : zA) (wv : v.wf) (sv : v.sz ≤ 1100) : (⟨x.Bs.set i v,x.Ls,x.Said⟩ : Net).wf ∧ (⟨x.Bs.set i v,x.Ls,x.Said⟩ : Net).sz ≤ 10000 := by
 have h6 := hx.2.2.1.2.1.2
 have h9 := hx.2.2.1.2.2.1
 have h40 := hx.2.2.1.2.2.2.1
 have hl : (x.Bs.set i v).length = x.Bs.length := List.length_set
 refine ⟨⟨⟨by simp only [hl]; exact hx.1.1.1,fun b hb => ?_⟩,hx.1.2⟩,?_⟩
 ·rcases List.mem_or_eq_of_mem_set hb with h | h
  ·exact hx.1.1.2 b h
  ·rw [h]; exact wv
 ·have h1 := zJP (sz := zA.sz) (c := 1100) (x.Bs.set i v) fun b hb => by
   rcases List.mem_or_eq_of_mem_set hb with h | h
   ·obtain ⟨j,hj,rfl⟩ := List.getElem_of_mem h
    have := (hx.br hj).2.2; omega
   ·rw [h]; exact sv
  show ((x.Bs.set i v).length + Qo zA.sz (x.Bs.set i v)) + x.Ls.length + x.Said.length ≤ 10000
  rw [hl] at h1 ⊢
  have : 1100 * x.Bs.length ≤ 6600 := by omega
  omega
theorem zBS (c : Src) (hc : c.ok) (z : Int) (z0 : 0 ≤ z) (z1 : z ≤ 100) : ∃ (y : Net) (c' : Src),Yr 1048800 c z = some (y,c') ∧ y.wf ∧ y.sz ≤ 10000 ∧ c'.ok := by
 have hm : maxLen = 9223372036854775807 := by decide
 obtain ⟨y,c1,e1,n1,g1⟩ := zJM c hc z z0 z1
 have h400 := n1.sz
 have h1 := n1.2.2.1.2.1
 have h9 := n1.2.2.1.2.2.1
 have h40 := n1.2.2.1.2.2.2.1
 have hs : (y.Bs.length + Qo zA.sz y.Bs) + y.Ls.length + y.Said.length = y.sz := rfl
 obtain ⟨v2,c2,e2,a2,b2,g2⟩ := zF 1048800 c1 (y.Bs.length : Int) g1
 have b2 := b2 (by omega)
 obtain ⟨v2,rfl⟩ := Int.eq_ofNat_of_zero_le a2
 have b2 : v2 < y.Bs.length := by omega
 obtain ⟨v3,c3,e3,a3,b3,g3⟩ := zF 1048800 c2 20 g2
 obtain ⟨w,c4,e4,w4,s4,g4⟩ := zJ7 c3 g3
 obtain ⟨v9,c9,e9,a9,b9,g9⟩ := zF 1048800 c3 3 g3
 obtain ⟨v10,c10,e10,a10,b10,g10⟩ := zF 1048800 c9 3 g9
 obtain ⟨v11,c11,e11,a11,b11,g11⟩ := zF 1048800 c10 7 g10
 obtain ⟨v12,c12,e12,a12,b12,g12⟩ := zF 1048800 c11 7 g11
 have b9 := b9 (by decide)
 have b10 := b10 (by decide)
 have b11 := b11 (by decide)
 have b12 := b12 (by decide)
 obtain ⟨v6,c6,e6,a6,g6⟩ := za 1048800 c3 [(-1),0,8,9] g3 (by decide)
 simp only [List.mem_cons,List.not_mem_nil,or_false] at a6
 obtain ⟨v7,c7,e7,s7,g7⟩ := zE5 1048800 c6 g6
 obtain ⟨p1,p2,p3,p4,p5⟩ := s7
 obtain ⟨ok,wb,sb⟩ := n1.br b2
 have hb : y.Bs[v2].Name.size + y.Bs[v2].Ps.length + y.Bs[v2].F.length + y.Bs[v2].V.sz = y.Bs[v2].sz := rfl
 have h0 := (qU _ _ (by omega) ok).1
 have i4 : idx y.Bs (v2 : Int) = some y.Bs[v2] := zI b2
 have i5 : idx y.Bs[v2].Ps (0 : Int) = some y.Bs[v2].Ps[0] := zI (k := 0) h0
 unfold Yr
 simp only [e1,bQ]
 rw [show ((y.Bs.length : Int) == 0) = false from by rw [beq_eq_false_iff_ne]; omega,fQ]
 simp only [e2,e3,e4,e9,e10,e11,e12,e6,e7,i4,i5,bQ]
 cases (v3 == 0) with
 | true =>
  obtain ⟨q1,q2⟩ := zLG n1 v2 w w4 s4
  exact ⟨_,_,rfl,q1,q2,g4⟩
 | false =>
 cases (v3 == 1) with
 | true =>
  rw [fQ,cQ,tQ (by simp; omega),cQ,wQ (z := v11 - 1)]
  refine ⟨_,_,rfl,⟨n1.1.1,⟨by simp; omega,fun l hl => ?_⟩,n1.1.2.2⟩,?_,g12⟩
  ·rcases List.mem_append.1 hl with h | h
   ·exact n1.1.2.1.2 l h
   ·rw [List.mem_singleton.1 h]
    exact ⟨iQ (z := v9),iQ (z := v10),iQ (z := v11 - 1),iQ (z := v12),trivial⟩
  ·simp only [Net.sz,List.length_append,List.length_singleton]; omega
 | false =>
 cases (v3 == 2) with
 | true =>
  rw [fQ,fQ,cQ,tQ (by simp; omega),cQ]
  refine ⟨_,_,rfl,⟨n1.1.1,n1.1.2.1,⟨by simp; omega,fun l hl => ?_⟩,trivial⟩,?_,g7⟩
  ·rcases List.mem_append.1 hl with h | h
   ·exact n1.1.2.2.1.2 l h
   ·rw [List.mem_singleton.1 h]
    exact ⟨iQ (z := v6),iQ (z := v7.Root),iQ (z := v7.Co),iQ (z := v7.Hops),iQ (z := v7.Bridge),iQ (z := v7.Port),trivial⟩
  ·simp only [Net.sz,List.length_append,List.length_singleton]; omega
 | false =>
 cases (v3 == 3) with
 | true =>
  have hw := wb.2.2.1.2 _ (List.getElem_mem h0)
  obtain ⟨i1,i2,i3,i6⟩ := wb
  obtain ⟨q1,q2⟩ := zLG n1 v2 ⟨y.Bs[v2].Id,y.Bs[v2].Name,y.Bs[v2].Ps.set (((0 : Int)).toNat) ⟨!y.Bs[v2].Ps[0].Up,y.Bs[v2].Ps[0].Co,y.Bs[v2].Ps[0].Has,y.Bs[v2].Ps[0].Hd⟩,y.Bs[v2].F,y.Bs[v2].V,y.Bs[v2].Tk,y.Bs[v2].Pa,y.Bs[v2].Wo,y.Bs[v2].Dr,y.Bs[v2].Ve⟩ ⟨i1,i2,⟨by simp only [List.length_set]; exact i3.1,fun p hp => by
   rcases List.mem_or_eq_of_mem_set hp with h | h
   ·exact i3.2 p h
   ·rw [h]; exact hw⟩,i6⟩ (by simp only [zA.sz,List.length_set]; omega)
  exact ⟨_,_,rfl,q1,q2,g3⟩
 | false => exact ⟨_,_,rfl,n1.1,by omega,g3⟩
theorem zDV (x0 : List Int) (h : x0.length ≤ 1048576) (m : Int) (m0 : 3 ≤ m) (m1 : m ≤ 100) : ∃ s,Yw 1048800 x0 m = some s ∧ 0 ≤ s ∧ s ≤ 100 := by
 have t0 : Int.tdiv (x0.length : Int) 12 = ((x0.length / 12 : Nat) : Int) := by rw [Int.tdiv_eq_ediv_of_nonneg (by omega)]; omega
 have t1 : IntKind.wrap .i64 ((x0.length / 12 : Nat) : Int) = ((x0.length / 12 : Nat) : Int) := wQ
 have t2 : IntKind.wrap .i64 (3 + ((x0.length / 12 : Nat) : Int)) = ((3 + x0.length / 12 : Nat) : Int) := by rw [wQ]; omega
 unfold Yw
 rw [t0,t1,t2,show decide ((12 : Int) ≠ 0) = true from by decide,cQ]
 by_cases hs : ((3 + x0.length / 12 : Nat) : Int) > m
 ·rw [tQ hs]; exact ⟨m,rfl,by omega,by omega⟩
 ·rw [dQ hs]; exact ⟨_,rfl,by omega,by omega⟩
theorem zHe (n : Nat) (c : Src) (hc : c.ok) (hn : 1000 < n) (z : Int) (z0 : 0 < z) (z1 : z ≤ 200) : ∃ (zs : List Event) (c' : Src),J4 n c z = some (zs,c') ∧ zs.length ≤ 200 ∧ c'.ok := by
 have loop : ∀ (m k : Nat) (zs : List Event) (c : Src),c.ok → k < m → zs.length + k ≤ 200 → ∃ (ys : List Event) (c' : Src),Zt n m k zs c.b c.i c.h = some (.inl (ys,c'.b,c'.i,c'.h)) ∧ ys.length ≤ 200 ∧ c'.ok := fun m => by
  induction m with
  | zero => intro k zs c _ h _; omega
  | succ m ih =>
   intro k zs c hc h h'
   rw [Zt]
   by_cases hk : (k : Int) > 0
   ·obtain ⟨v,c1,e1,_,g1⟩ := za n c [1,1,1,2,2,2,2,3,4,5,6] hc (by decide)
    obtain ⟨w,c2,e2,_,_,g2⟩ := zF n c1 4 g1
    rw [tQ hk,cQ,show zX n ⟨c.b,c.i,c.h⟩ [1,1,1,2,2,2,2,3,4,5,6] = _ from e1,bQ,e2,bQ,tQ (by simp; omega),cQ,show IntKind.wrap .i64 ((k : Int) - 1) = ((k - 1 : Nat) : Int) from by rw [wQ]; omega]
    exact ih (k - 1) _ c2 g2 (by omega) (by simp; omega)
   ·rw [dQ hk,fQ]
    exact ⟨zs,c,rfl,by omega,hc⟩
 obtain ⟨v,c1,e1,v0,v1,g1⟩ := zF n c z hc
 have v1 := v1 z0
 obtain ⟨v,rfl⟩ := Int.eq_ofNat_of_zero_le v0
 obtain ⟨ys,c2,e2,e3,e4⟩ := loop n v [] c1 g1 (by omega) (by simp; omega)
 unfold J4
 rw [e1,bQ,show Zt n n v [] c1.b c1.i c1.h = _ from e2]
 exact ⟨ys,c2,rfl,e3,e4⟩
theorem zGM (x0 : List Int) (w0 : Q5 zLl x0) : ∃ n,zAA n x0 = some true := by
 refine ⟨1048800,?_⟩
 simp only [zAA,zF3,bQ]
 by_cases hbig : (x0.length : Int) > 1048576
 ·rw [tQ hbig]; rfl
 rw [dQ hbig,fQ]
 have hx0 : x0.length ≤ 1048576 := by omega
 obtain ⟨c,e1,g1⟩ := zKs 1048800 x0 (by omega) (by omega)
 obtain ⟨s2,t2,a2,b2⟩ := zDV x0 hx0 12 (by omega) (by omega)
 obtain ⟨y2,c2,d2,w2,z2,g2⟩ := zBS c g1 s2 a2 b2
 obtain ⟨v3,c3,e3,g3⟩ := zE3 1048800 c2 y2 g2
 obtain ⟨v4,c4,e4,_,_,g4⟩ := zF 1048800 c3 10 g3
 obtain ⟨v5,c5,e5,_,_,g5⟩ := zF 1048800 c4 8 g4
 obtain ⟨v6,c6,e6,_,g6⟩ := za 1048800 c4 [(-1),40,0] g4 (by decide)
 obtain ⟨z,ez⟩ : ∃ z,zAP 1048800 x0 = some (y2,z) := by
  unfold zAP
  simp only [e1,t2,d2,e3,e4,e5,e6,bQ]
  cases (v4 == 0) <;> cases (v4 == 1) <;> exact ⟨_,rfl⟩
 obtain ⟨y7,c7,d7,w7,z7,g7⟩ := zBS c g1 2 (by omega) (by omega)
 obtain ⟨zs,c8,e8,l8,_⟩ := zHe 1048800 c7 g7 (by omega) (6 + s2) (by omega) (by omega)
 have ezs : Jy 1048800 x0 = some (y7,zs) := by
  unfold Jy
  simp only [e1,d7,t2,bQ,show IntKind.wrap .i64 (6 + s2) = 6 + s2 from wQ,e8]
 obtain ⟨s9,t9,a9,b9⟩ := zDV x0 hx0 10 (by omega) (by omega)
 obtain ⟨y9,c9,d9,w9,z9,g9⟩ := zBS c g1 s9 a9 b9
 have e9 : Jx 1048800 x0 = some y9 := by
  unfold Jx
  simp only [e1,t9,d9,bQ]
 obtain ⟨s10,t10,a10,b10⟩ := zDV x0 hx0 6 (by omega) (by omega)
 obtain ⟨y10,c10,d10,w10,z10,g10⟩ := zBS c g1 s10 a10 b10
 obtain ⟨v11,c11,e11,_,g11⟩ := za 1048800 c10 [0,1,2,5,(-1)] g10 (by decide)
 have e10 : JW 1048800 x0 = some (y10,v11) := by
  unfold JW
  simp only [e1,t10,d10,e11,bQ]
 obtain ⟨r3,b3,p1,p2,p3,_⟩ := zGA 1048800 y2 z w2 (by omega) (by omega)
 obtain ⟨r4,p4,p5,p6,_⟩ := zJI 1048800 y7 zs (by omega) w7 (by omega) (by omega)
 obtain ⟨r5,p7,p8,p9,_⟩ := zFf 1048800 y9 w9 (by omega) (by omega)
 obtain ⟨r6,p10,p11,p12,_⟩ := zIV 1048800 y10 v11 w10 (by omega) (by omega)
 simp only [ez,ezs,e9,e10,p1,p2,p4,p5,p7,p8,p10,p11,Js 1048800 r3 (by omega) (by omega),Js 1048800 r4 (by omega) (by omega),Js 1048800 r5 (by omega) (by omega),Js 1048800 r6 (by omega) (by omega),bQ,beq_self_eq_true,cQ]
end Go.Proofs.YtajadnlejdpceaaGreat.Tw
