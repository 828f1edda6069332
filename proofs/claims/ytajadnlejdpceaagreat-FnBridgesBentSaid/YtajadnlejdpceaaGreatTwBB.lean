import Derived.Test.YtajadnlejdpceaaGreatProg
import Derived.Test.YtajadnlejdpceaaGreatTlRule
import Derived.Test.YtajadnlejdpceaaGreatTlU12
import Derived.Test.YtajadnlejdpceaaGreatTwBB1
import Derived.WalkKit
set_option linter.unusedVariables false
set_option linter.unusedSimpArgs false
set_option maxRecDepth 100000
set_option maxHeartbeats 1000000
namespace Go.Proofs.YtajadnlejdpceaaGreat.Tw
open Go Go.TL Go.Proofs
def qo (n : Nat) (x0 : zA) (x1 : Int) (x2 : Vec) : Option (zA) :=
  ((Zx n x0).bind fun r1 => ((Qg n x0 x1).bind fun r2 => (bif (!r2) then (some r1) else ((idx x0.Ps x1).bind fun v3 => (bif (!v3.Up) then (some r1) else ((qR n x2).bind fun r4 => (bif (!r4) then (some r1) else ((idx r1.Ps x1).bind fun v5 => ((idx (r1.Ps.set (x1.toNat) (⟨v5.Up,v5.Co,true,v5.Hd⟩ : Pt)) x1).bind fun v6 => ((ZP n (⟨r1.Id,r1.Name,((r1.Ps.set (x1.toNat) (⟨v5.Up,v5.Co,true,v5.Hd⟩ : Pt)).set (x1.toNat) (⟨v6.Up,v6.Co,v6.Has,x2⟩ : Pt)),r1.F,r1.V,r1.Tk,r1.Pa,r1.Wo,r1.Dr,r1.Ve⟩ : zA)).bind fun r7 => (some r7)))))))))))
theorem Qq (n : Nat) (x0 : zA) (x1 : Int) (x2 : Vec) (r : zA) (H : qo n x0 x1 x2 = some r) : zG Tryz.prog 18 [.val true (CV.frzRow (zA.row x0)),.val false [.lit (.int .i64 x1)],.val true (CV.frzRow (Vec.row x2))] [.val true (zA.row r)] [] := by
 refine cW Tryz.func18 (fun g d => sl [g 0,g 1,sl [g 2] (cn 27 (sl [g 3] .ret) .skip),g 4,g 5,g 6] .ret) [.cell 6 31] fun cx => ?_
 unfold qo at H
 refine gA 3 106 104 ?_
 refine rA 1 ?_
 obtain ⟨r1,er1,H⟩ := bs H
 refine vA [.rd] (zAN n x0 r1 er1) ?_
 refine uA 2 234 232 ?_
 refine tS ?_
 refine rA 2 ?_
 obtain ⟨r2,er2,H⟩ := bs H
 refine vA [.rd,.rd] (zC4 n x0 x1 r2 er2) ?_
 refine lA 2 ?_
 refine sL 16618 232 ⟨42,0,[sB 14 (!r2),sA 7 7 11 0,sA 6 6 11 0,sA 5 5 5 0,sA 3 3 11 0,sI 1 x1],[(7,(zA.row r1)),(6,[cI 0,cS (⟨#[]⟩ : ByteArray),cL 8 ([] : List Pt) Pt.row,cL 5 ([] : List zB) zB.row,cL 3 ([] : List zC) zC.row,cL 1 ([] : List Int) intRow,cI 0,cI 0,cI 0,cI 0,cI 0]),(5,(Vec.row x2)),(3,(CV.frzRow (zA.row x0)))]⟩ ?_
 cases h1 : (!r2)
 ·have H := zI h1 H
  refine lA 3 ?_
  obtain ⟨v3,ev3,H⟩ := bs H
  refine iA Pt.row ev3 ?_
  refine lA 5 ?_
  refine sL 8388834 224 ⟨42,0,[sB 23 (!v3.Up),sA 7 7 11 0,sA 6 6 11 0,sA 5 5 5 0,sI 1 x1],[(7,(zA.row r1)),(6,[cI 0,cS (⟨#[]⟩ : ByteArray),cL 8 ([] : List Pt) Pt.row,cL 5 ([] : List zB) zB.row,cL 3 ([] : List zC) zC.row,cL 1 ([] : List Int) intRow,cI 0,cI 0,cI 0,cI 0,cI 0]),(5,(Vec.row x2))]⟩ ?_
  cases h2 : (!v3.Up)
  ·have H := zI h2 H
   refine lA 1 ?_
   obtain ⟨r4,er4,H⟩ := bs H
   refine vA [.rd] (zBQ n x2 r4 er4) ?_
   refine uA 2 134217954 224 ?_
   obtain ⟨h3,H⟩ | ⟨h3,H⟩ := bC H
   ·refine nA h3 ?_
    refine tK ?_
    refine rA 3 ?_
    obtain ⟨v5,ev5,H⟩ := bs H
    refine oA Pt.row ev5 ?_
    refine lA 1 ?_
    refine LAt.storeB tOk (t := 4) (ty := 0) (ad := (.tmp 33)) (x := (.const (.bool true))) (g := none) (tI 4) false [cB true] 7 2 (x1.toNat) 8 2 8 r1.Ps Pt.row v5 (⟨v5.Up,v5.Co,true,v5.Hd⟩ : Pt) kr kr kr kr kr kr kr kr (Qx ev5).2 kr kr kr kr ?_
    refine dA 226 224 ?_
    refine rA 4 ?_
    obtain ⟨v6,ev6,H⟩ := bs H
    refine oA Pt.row ev6 ?_
    refine lA 1 ?_
    refine LAt.storeB tOk (t := 33) (ty := 0) (ad := (.tmp 39)) (x := (.tmp 37)) (g := none) (tI 33) true (Vec.row x2) 7 2 (x1.toNat) 8 3 8 (r1.Ps.set (x1.toNat) (⟨v5.Up,v5.Co,true,v5.Hd⟩ : Pt)) Pt.row v6 (⟨v6.Up,v6.Co,v6.Has,x2⟩ : Pt) kr kr kr kr kr kr kr kr (Qx ev6).2 kr kr kr kr ?_
    refine dA 192 192 ?_
    refine rA 1 ?_
    obtain ⟨r7,er7,H⟩ := bs H
    refine vA [.own] (zAd n (⟨r1.Id,r1.Name,((r1.Ps.set (x1.toNat) (⟨v5.Up,v5.Co,true,v5.Hd⟩ : Pt)).set (x1.toNat) (⟨v6.Up,v6.Co,v6.Has,x2⟩ : Pt)),r1.F,r1.V,r1.Tk,r1.Pa,r1.Wo,r1.Dr,r1.Ve⟩ : zA) r7 er7) ?_
    refine uA 1 64 64 ?_
    exact te (fJ [(true,(zA.row r7))] H)
   refine tA h3 ?_
   refine gA 2 64 64 ?_
   exact te (fJ [(true,(zA.row r1))] H)
  have H := zJ h2 H
  refine uA 4 134217954 224 ?_
  refine tB_ ?_
  refine gA 2 64 64 ?_
  exact te (fJ [(true,(zA.row r1))] H)
 have H := zJ h1 H
 refine uA 13 134217954 224 ?_
 refine tB_ ?_
 refine gA 2 64 64 ?_
 exact te (fJ [(true,(zA.row r1))] H)
def Qo (n : Nat) : Option (Bool) :=
  (some true)
def zb (n : Nat) : Nat → (List zC) → (List zC) → Int → Option ((Unit) ⊕ (Bool))
  | 0,_,_,_ => none
  | mo2 + 1,x0,x1,y1 => (bif (decide (y1 < (x0.length : Int))) then ((idx x0 y1).bind fun v3 => ((idx x1 y1).bind fun v4 => (bif (!((v3.Id == v4.Id) && ((v3.Members == v4.Members) && ((v3.Bare == v4.Bare) && true)))) then (some (Sum.inr false)) else (zb n mo2 x0 x1 (IntKind.wrap .i64 (y1 + 1)))))) else (some (Sum.inl ())))
def Ze (n : Nat) (x0 : (List zC)) (x1 : (List zC)) : Option (Bool) :=
  (bif ((x0.length : Int) != (x1.length : Int)) then (some false) else ((zb n n x0 x1 0).bind fun o => match o with | .inl _ => (Qo n) | .inr r => some r))
theorem zGG (n : Nat) (x0 : (List zC)) (x1 : (List zC)) (r : Bool) (H : Ze n x0 x1 = some r) : zG Tryz.prog 84 [.val false [.sl false 3 (CV.frzEs (x0.map zC.row))],.val false [.sl false 3 (CV.frzEs (x1.map zC.row))]] [.val false [.lit (.bool r)]] [] := by
 refine cW Tryz.func84 (fun g d => sl [g 0,sl [g 1] (cn 10 (sl [g 2] .ret) .skip),sl [g 3] (.block 0 (.loop (sl [g 4,cn 14 .skip (.exit 0),.block 1 (sl [g 5,d 6] (cn 24 (sl [g 7] .ret) .skip))] (g 8)))),g 9] .ret) [.tmp 4] fun cx => ?_
 unfold Ze at H
 refine gA 1 3 0 ?_
 refine tS ?_
 refine rA 1 ?_
 refine kF x0 zC.row ?_
 refine lA 1 ?_
 refine kF x1 zC.row ?_
 refine uA 1 1027 0 ?_
 obtain ⟨h1,H⟩ | ⟨h1,H⟩ := bC H
 ·refine nA h1 ?_
  refine tK ?_
  refine tS ?_
  refine rA 1 ?_
  refine kF x0 zC.row ?_
  refine uA 1 12291 0 ?_
  obtain ⟨o2,eo2,Ho2⟩ := bs H
  clear H
  refine Tr.mid (ι := Unit) (fun v => ⟨26,0,[],[]⟩) (fun v => Qo n = some r) ?_ ?_
  ·refine tB ?_
   refine Tr.loop (ι := Nat × (Int)) (fun v => ⟨26,0,[sI 13 v.2,sI 12 (x0.length : Int),sC 0 (cF 3 x0 zC.row),sC 1 (cF 3 x1 zC.row)],[]⟩) (fun v => zb n v.1 x0 x1 v.2 = some o2) (fun v => v.1) (n,0) eo2 (St.sub_of [13,12,0,1] [] kr) ?_
   rintro ⟨mo2,y1⟩ H
   have H : zb n mo2 x0 x1 y1 = some o2 := H
   obtain _ | mo2 := mo2
   ·exact nN H
   rw [zb] at H
   refine gA 1 28675 0 ?_
   refine tS ?_
   obtain ⟨h2,H⟩ | ⟨h2,H⟩ := bC H
   ·refine nA h2 ?_
    refine Tr.exit ?_
    refine aJ ?_
    obtain rfl := si H
    have H := Ho2
    dsimp only at H
    exact jA () H [] []
   refine tA h2 ?_
   refine tK ?_
   refine tS ?_
   refine tB ?_
   refine gA 2 12323 0 ?_
   obtain ⟨v3,ev3,H⟩ := bs H
   obtain ⟨v4,ev4,H⟩ := bs H
   refine Tr.draws mixed 9 kr ⟨26,0,[sB 24 (!((v3.Id == v4.Id) && ((v3.Members == v4.Members) && ((v3.Bare == v4.Bare) && true)))),sI 13 y1,sI 12 (x0.length : Int),sC 0 (cF 3 x0 zC.row),sC 1 (cF 3 x1 zC.row)],[]⟩ (fun cx => ?_) ?_
   ·refine aA [(0,[]),(1,[])] 7 [] fun cx => ?_
    refine aI tOk 2 26 0 16 17 18 none ⟨(.slot 16),[],0,false,3,(CV.frzEs (x0.map zC.row))⟩ y1 (zC.row v3) _ kr kr kr kr kr kr rfl (ZF ev3) rfl (fun cx => ?_)
    refine aA [(3,[]),(4,[]),(5,[])] 3 [] fun cx => ?_
    refine aI tOk 6 26 0 20 21 22 none ⟨(.slot 20),[],0,false,3,(CV.frzEs (x1.map zC.row))⟩ y1 (zC.row v4) _ kr kr kr kr kr kr rfl (ZF ev4) rfl (fun cx => ?_)
    refine aA [(7,[])] 1 [] fun cx => ?_
    refine bA 8 ?_
    refine LAt.eqSG true (t := 113) (ty := 113) (ty' := 4) (x := (.tmp 19)) (y := (.tmp 23)) (d := 24) (g := none) ((v3.Id == v4.Id) && ((v3.Members == v4.Members) && ((v3.Bare == v4.Bare) && true))) _ kr kr kr kr rfl ?_
    refine fA ?_
    exact eE [24,13,12,0,1] []
   refine sT ⟨26,0,[sB 24 (!((v3.Id == v4.Id) && ((v3.Members == v4.Members) && ((v3.Bare == v4.Bare) && true)))),sI 13 y1,sI 12 (x0.length : Int),sC 0 (cF 3 x0 zC.row),sC 1 (cF 3 x1 zC.row)],[]⟩ ?_
   cases h3 : (!((v3.Id == v4.Id) && ((v3.Members == v4.Members) && ((v3.Bare == v4.Bare) && true))))
   ·have H := zI h3 H
    refine nB_ ?_
    refine tK ?_
    refine eA 2 12291 0 ?_
    exact jB mo2 (IntKind.wrap .i64 (y1 + 1)) H [13,12,0,1] []
   have H := zJ h3 H
   refine tB_ ?_
   refine gA 1 16 0 ?_
   refine te ?_
   obtain rfl := si H
   have H := Ho2
   dsimp only at H
   exact fF H
  rintro _ H
  have H : (Qo n) = some r := H
  unfold Qo at H
  refine gA 1 16 0 ?_
  exact te (fT H)
 refine tA h1 ?_
 refine gA 1 16 0 ?_
 exact te (fF H)
def Yx (n : Nat) : Option (Bool) :=
  (some true)
def qh (n : Nat) : Nat → (List Int) → (List Int) → Int → Option ((Unit) ⊕ (Bool))
  | 0,_,_,_ => none
  | mo2 + 1,x0,x1,y1 => (bif (decide (y1 < (x0.length : Int))) then ((idx x0 y1).bind fun v3 => ((idx x1 y1).bind fun v4 => (bif (v3 != v4) then (some (Sum.inr false)) else (qh n mo2 x0 x1 (IntKind.wrap .i64 (y1 + 1)))))) else (some (Sum.inl ())))
def QO (n : Nat) (x0 : (List Int)) (x1 : (List Int)) : Option (Bool) :=
  (bif ((x0.length : Int) != (x1.length : Int)) then (some false) else ((qh n n x0 x1 0).bind fun o => match o with | .inl _ => (Yx n) | .inr r => some r))
theorem zGd (n : Nat) (x0 : (List Int)) (x1 : (List Int)) (r : Bool) (H : QO n x0 x1 = some r) : zG Tryz.prog 85 [.val false [.sl false 1 (CV.frzEs (x0.map intRow))],.val false [.sl false 1 (CV.frzEs (x1.map intRow))]] [.val false [.lit (.bool r)]] [] := by
 refine cW Tryz.func85 (fun g d => sl [g 0,sl [g 1] (cn 10 (sl [g 2] .ret) .skip),sl [g 3] (.block 0 (.loop (sl [g 4,cn 14 .skip (.exit 0),.block 1 (sl [g 5,d 6] (cn 24 (sl [g 7] .ret) .skip))] (g 8)))),g 9] .ret) [.tmp 4] fun cx => ?_
 unfold QO at H
 refine gA 1 3 0 ?_
 refine tS ?_
 refine rA 1 ?_
 refine kF x0 intRow ?_
 refine lA 1 ?_
 refine kF x1 intRow ?_
 refine uA 1 1027 0 ?_
 obtain ⟨h1,H⟩ | ⟨h1,H⟩ := bC H
 ·refine nA h1 ?_
  refine tK ?_
  refine tS ?_
  refine rA 1 ?_
  refine kF x0 intRow ?_
  refine uA 1 12291 0 ?_
  obtain ⟨o2,eo2,Ho2⟩ := bs H
  clear H
  refine Tr.mid (ι := Unit) (fun v => ⟨26,0,[],[]⟩) (fun v => Yx n = some r) ?_ ?_
  ·refine tB ?_
   refine Tr.loop (ι := Nat × (Int)) (fun v => ⟨26,0,[sI 13 v.2,sI 12 (x0.length : Int),sC 0 (cF 1 x0 intRow),sC 1 (cF 1 x1 intRow)],[]⟩) (fun v => qh n v.1 x0 x1 v.2 = some o2) (fun v => v.1) (n,0) eo2 (St.sub_of [13,12,0,1] [] kr) ?_
   rintro ⟨mo2,y1⟩ H
   have H : qh n mo2 x0 x1 y1 = some o2 := H
   obtain _ | mo2 := mo2
   ·exact nN H
   rw [qh] at H
   refine gA 1 28675 0 ?_
   refine tS ?_
   obtain ⟨h2,H⟩ | ⟨h2,H⟩ := bC H
   ·refine nA h2 ?_
    refine Tr.exit ?_
    refine aJ ?_
    obtain rfl := si H
    have H := Ho2
    dsimp only at H
    exact jA () H [] []
   refine tA h2 ?_
   refine tK ?_
   refine tS ?_
   refine tB ?_
   refine gA 2 12323 0 ?_
   obtain ⟨v3,ev3,H⟩ := bs H
   obtain ⟨v4,ev4,H⟩ := bs H
   refine Tr.draws mixed 9 kr ⟨26,0,[sB 24 (v3 != v4),sI 13 y1,sI 12 (x0.length : Int),sC 0 (cF 1 x0 intRow),sC 1 (cF 1 x1 intRow)],[]⟩ (fun cx => ?_) ?_
   ·refine aA [(0,[]),(1,[])] 7 [] fun cx => ?_
    refine aI tOk 2 27 0 16 17 18 none ⟨(.slot 16),[],0,false,1,(CV.frzEs (x0.map intRow))⟩ y1 [cI v3] _ kr kr kr kr kr kr rfl (ZF ev3) rfl (fun cx => ?_)
    refine aA [(3,[]),(4,[]),(5,[])] 3 [] fun cx => ?_
    refine aI tOk 6 27 0 20 21 22 none ⟨(.slot 20),[],0,false,1,(CV.frzEs (x1.map intRow))⟩ y1 [cI v4] _ kr kr kr kr kr kr rfl (ZF ev4) rfl (fun cx => ?_)
    refine aA [(7,[]),(8,[])] 0 [] fun cx => ?_
    exact eE [24,13,12,0,1] []
   refine sT ⟨26,0,[sB 24 (v3 != v4),sI 13 y1,sI 12 (x0.length : Int),sC 0 (cF 1 x0 intRow),sC 1 (cF 1 x1 intRow)],[]⟩ ?_
   cases h3 : (v3 != v4)
   ·have H := zI h3 H
    refine nB_ ?_
    refine tK ?_
    refine eA 2 12291 0 ?_
    exact jB mo2 (IntKind.wrap .i64 (y1 + 1)) H [13,12,0,1] []
   have H := zJ h3 H
   refine tB_ ?_
   refine gA 1 16 0 ?_
   refine te ?_
   obtain rfl := si H
   have H := Ho2
   dsimp only at H
   exact fF H
  rintro _ H
  have H : (Yx n) = some r := H
  unfold Yx at H
  refine gA 1 16 0 ?_
  exact te (fT H)
 refine tA h1 ?_
 refine gA 1 16 0 ?_
 exact te (fF H)
def Zb (n : Nat) (x0 : zA) (x1 : zA) : Option (Bool) :=
  (bif (x0.Tk == x1.Tk) then (bif (x0.Pa == x1.Pa) then (bif (x0.Wo == x1.Wo) then (bif (x0.Dr == x1.Dr) then (some (x0.Ve == x1.Ve)) else (some false)) else (some false)) else (some false)) else (some false))
def zt (n : Nat) : Nat → zA → zA → Int → Option ((Unit) ⊕ (Bool))
  | 0,_,_,_ => none
  | mo5 + 1,x0,x1,y4 => (bif (decide (y4 < (x0.F.length : Int))) then ((idx x0.F y4).bind fun v6 => ((idx x1.F y4).bind fun v7 => (bif (!((v6.Tag == v7.Tag) && ((v6.Mac == v7.Mac) && ((v6.Port == v7.Port) && ((v6.Age == v7.Age) && ((v6.Sc == v7.Sc) && true)))))) then (some (Sum.inr false)) else (zt n mo5 x0 x1 (IntKind.wrap .i64 (y4 + 1)))))) else (some (Sum.inl ())))
def Za (n : Nat) (x0 : zA) (x1 : zA) : Option (Bool) :=
  ((zt n n x0 x1 0).bind fun o => match o with | .inl _ => (Zb n x0 x1) | .inr r => some r)
def zu (n : Nat) : Nat → zA → zA → Int → Option ((Unit) ⊕ (Bool))
  | 0,_,_,_ => none
  | mo8 + 1,x0,x1,y3 => (bif (decide (y3 < (x0.Ps.length : Int))) then ((idx x0.Ps y3).bind fun v9 => ((idx x1.Ps y3).bind fun v10 => (bif (!((v9.Up == v10.Up) && ((v9.Co == v10.Co) && ((v9.Has == v10.Has) && (((v9.Hd.Root == v10.Hd.Root) && ((v9.Hd.Co == v10.Hd.Co) && ((v9.Hd.Hops == v10.Hd.Hops) && ((v9.Hd.Bridge == v10.Hd.Bridge) && ((v9.Hd.Port == v10.Hd.Port) && true))))) && true))))) then (some (Sum.inr false)) else (zu n mo8 x0 x1 (IntKind.wrap .i64 (y3 + 1)))))) else (some (Sum.inl ())))
def zM (n : Nat) (x0 : zA) (x1 : zA) : Option (Bool) :=
  (bif (x0.Id != x1.Id) then (some false) else (bif (!(x0.Name.toList == x1.Name.toList)) then (some false) else (bif ((x0.Ps.length : Int) != (x1.Ps.length : Int)) then (some false) else (bif ((x0.F.length : Int) != (x1.F.length : Int)) then (some false) else ((Ze n x0.V.Rows x1.V.Rows).bind fun r1 => (bif (!r1) then (some false) else ((QO n x0.V.Pv x1.V.Pv).bind fun r2 => (bif (!r2) then (some false) else ((zu n n x0 x1 0).bind fun o => match o with | .inl _ => (Za n x0 x1) | .inr r => some r)))))))))
theorem zd (n : Nat) (x0 : zA) (x1 : zA) (r : Bool) (H : zM n x0 x1 = some r) : zG Tryz.prog 16 [.val true (CV.frzRow (zA.row x0)),.val true (CV.frzRow (zA.row x1))] [.val false [.lit (.bool r)]] [] := by
 refine cW Tryz.func16 (fun g d => sl [g 0,sl [g 1] (cn 56 (sl [g 2] .ret) .skip),sl [g 3] (.block 0 (.loop (sl [g 4,cn 61 .skip (.exit 0),.block 1 (sl [g 5,d 6] (cn 73 (sl [g 7] .ret) .skip))] (g 8)))),sl [g 9] (.block 2 (.loop (sl [g 10,cn 79 .skip (.exit 2),.block 3 (sl [g 11,d 12] (cn 91 (sl [g 13] .ret) .skip))] (g 14)))),g 15] .ret) [.tmp 4] fun cx => ?_
 unfold zM at H
 refine gA 3 12 12 ?_
 refine tS ?_
 refine rA 6 ?_
 refine sL 4108 12 ⟨126,0,[sB 12 (x0.Id != x1.Id),sA 3 3 11 0,sA 2 2 11 0],[(3,(CV.frzRow (zA.row x1))),(2,(CV.frzRow (zA.row x0)))]⟩ ?_
 cases h1 : (x0.Id != x1.Id)
 ·have H := zI h1 H
  refine lA 7 ?_
  refine sL 524300 12 ⟨126,0,[sB 19 (!(x0.Name.toList == x1.Name.toList)),sA 3 3 11 0,sA 2 2 11 0],[(3,(CV.frzRow (zA.row x1))),(2,(CV.frzRow (zA.row x0)))]⟩ ?_
  cases h2 : (!(x0.Name.toList == x1.Name.toList))
  ·have H := zI h2 H
   refine lA 2 ?_
   refine kF x0.Ps Pt.row ?_
   refine lA 2 ?_
   refine kF x1.Ps Pt.row ?_
   refine lA 3 ?_
   refine sL 268435468 12 ⟨126,0,[sB 28 ((x0.Ps.length : Int) != (x1.Ps.length : Int)),sA 3 3 11 0,sA 2 2 11 0],[(3,(CV.frzRow (zA.row x1))),(2,(CV.frzRow (zA.row x0)))]⟩ ?_
   cases h3 : ((x0.Ps.length : Int) != (x1.Ps.length : Int))
   ·have H := zI h3 H
    refine lA 2 ?_
    refine kF x0.F zB.row ?_
    refine lA 2 ?_
    refine kF x1.F zB.row ?_
    refine lA 3 ?_
    refine sL 137438953484 12 ⟨126,0,[sB 37 ((x0.F.length : Int) != (x1.F.length : Int)),sA 3 3 11 0,sA 2 2 11 0],[(3,(CV.frzRow (zA.row x1))),(2,(CV.frzRow (zA.row x0)))]⟩ ?_
    cases h4 : ((x0.F.length : Int) != (x1.F.length : Int))
    ·have H := zI h4 H
     refine lA 6 ?_
     obtain ⟨r1,er1,H⟩ := bs H
     refine vA [.rd,.rd] (zGG n x0.V.Rows x1.V.Rows r1 er1) ?_
     refine lA 3 ?_
     refine sL 0x80000000000c 12 ⟨126,0,[sB 47 (!r1),sA 3 3 11 0,sA 2 2 11 0],[(3,(CV.frzRow (zA.row x1))),(2,(CV.frzRow (zA.row x0)))]⟩ ?_
     cases h5 : (!r1)
     ·have H := zI h5 H
      refine lA 6 ?_
      obtain ⟨r2,er2,H⟩ := bs H
      refine vA [.rd,.rd] (zGd n x0.V.Pv x1.V.Pv r2 er2) ?_
      refine uA 2 72057594037927948 12 ?_
      obtain ⟨h6,H⟩ | ⟨h6,H⟩ := bC H
      ·refine nA h6 ?_
       refine tK ?_
       refine tS ?_
       refine rA 2 ?_
       refine kF x0.Ps Pt.row ?_
       refine uA 1 0x180000000000000c 12 ?_
       obtain ⟨o8,eo8,Ho8⟩ := bs H
       clear H
       refine Tr.mid (ι := Unit) (fun v => ⟨126,0,[sA 3 3 11 0,sA 2 2 11 0],[(3,(CV.frzRow (zA.row x1))),(2,(CV.frzRow (zA.row x0)))]⟩) (fun v => Za n x0 x1 = some r) ?_ ?_
       ·refine tB ?_
        refine Tr.loop (ι := Nat × (Int)) (fun v => ⟨126,0,[sI 60 v.2,sI 59 (x0.Ps.length : Int),sA 3 3 11 0,sA 2 2 11 0],[(3,(CV.frzRow (zA.row x1))),(2,(CV.frzRow (zA.row x0)))]⟩) (fun v => zu n v.1 x0 x1 v.2 = some o8) (fun v => v.1) (n,0) eo8 (St.sub_of [60,59,3,2] [3,2] kr) ?_
        rintro ⟨mo8,y3⟩ H
        have H : zu n mo8 x0 x1 y3 = some o8 := H
        obtain _ | mo8 := mo8
        ·exact nN H
        rw [zu] at H
        refine gA 1 0x380000000000000c 12 ?_
        refine tS ?_
        obtain ⟨h13,H⟩ | ⟨h13,H⟩ := bC H
        ·refine nA h13 ?_
         refine Tr.exit ?_
         refine aJ ?_
         obtain rfl := si H
         have H := Ho8
         dsimp only at H
         exact jA () H [3,2] [3,2]
        refine tA h13 ?_
        refine tK ?_
        refine tS ?_
        refine tB ?_
        refine gA 2 0x180000000000002c 12 ?_
        obtain ⟨v9,ev9,H⟩ := bs H
        obtain ⟨v10,ev10,H⟩ := bs H
        refine Tr.draws mixed 11 kr ⟨126,0,[sB 73 (!((v9.Up == v10.Up) && ((v9.Co == v10.Co) && ((v9.Has == v10.Has) && (((v9.Hd.Root == v10.Hd.Root) && ((v9.Hd.Co == v10.Hd.Co) && ((v9.Hd.Hops == v10.Hd.Hops) && ((v9.Hd.Bridge == v10.Hd.Bridge) && ((v9.Hd.Port == v10.Hd.Port) && true))))) && true))))),sI 60 y3,sI 59 (x0.Ps.length : Int),sA 3 3 11 0,sA 2 2 11 0],[(3,(CV.frzRow (zA.row x1))),(2,(CV.frzRow (zA.row x0)))]⟩ (fun cx => ?_) ?_
        ·refine aA [(0,[]),(1,[10]),(2,[])] 8 [⟨[10],24,63,64⟩] fun cx => ?_
         refine aI tOk 3 24 0 64 65 66 none ⟨(.box 2),[(0,0)],2,false,8,(CV.frzEs (x0.Ps.map Pt.row))⟩ y3 (Pt.row v9) _ kr kr kr kr kr kr rfl (ZF ev9) rfl (fun cx => ?_)
         refine aA [(4,[]),(5,[]),(6,[10]),(7,[])] 3 [⟨[10],24,68,69⟩,⟨[10],24,63,64⟩] fun cx => ?_
         refine aI tOk 8 24 0 69 70 71 none ⟨(.box 3),[(0,0)],2,false,8,(CV.frzEs (x1.Ps.map Pt.row))⟩ y3 (Pt.row v10) _ kr kr kr kr kr kr rfl (ZF ev10) rfl (fun cx => ?_)
         refine aA [(9,[])] 1 [⟨[10],24,68,69⟩,⟨[10],24,63,64⟩] fun cx => ?_
         refine bA 10 ?_
         refine LAt.eqSG true (t := 100) (ty := 100) (ty' := 4) (x := (.tmp 67)) (y := (.tmp 72)) (d := 73) (g := none) ((v9.Up == v10.Up) && ((v9.Co == v10.Co) && ((v9.Has == v10.Has) && (((v9.Hd.Root == v10.Hd.Root) && ((v9.Hd.Co == v10.Hd.Co) && ((v9.Hd.Hops == v10.Hd.Hops) && ((v9.Hd.Bridge == v10.Hd.Bridge) && ((v9.Hd.Port == v10.Hd.Port) && true))))) && true)))) _ kr kr kr kr rfl ?_
         refine fA ?_
         exact eE [73,60,59,3,2] [3,2]
        refine sT ⟨126,0,[sB 73 (!((v9.Up == v10.Up) && ((v9.Co == v10.Co) && ((v9.Has == v10.Has) && (((v9.Hd.Root == v10.Hd.Root) && ((v9.Hd.Co == v10.Hd.Co) && ((v9.Hd.Hops == v10.Hd.Hops) && ((v9.Hd.Bridge == v10.Hd.Bridge) && ((v9.Hd.Port == v10.Hd.Port) && true))))) && true))))),sI 60 y3,sI 59 (x0.Ps.length : Int),sA 3 3 11 0,sA 2 2 11 0],[(3,(CV.frzRow (zA.row x1))),(2,(CV.frzRow (zA.row x0)))]⟩ ?_
        cases h14 : (!((v9.Up == v10.Up) && ((v9.Co == v10.Co) && ((v9.Has == v10.Has) && (((v9.Hd.Root == v10.Hd.Root) && ((v9.Hd.Co == v10.Hd.Co) && ((v9.Hd.Hops == v10.Hd.Hops) && ((v9.Hd.Bridge == v10.Hd.Bridge) && ((v9.Hd.Port == v10.Hd.Port) && true))))) && true)))))
        ·have H := zI h14 H
         refine nB_ ?_
         refine tK ?_
         refine eA 2 0x180000000000000c 12 ?_
         exact jB mo8 (IntKind.wrap .i64 (y3 + 1)) H [60,59,3,2] [3,2]
        have H := zJ h14 H
        refine tB_ ?_
        refine gA 1 16 0 ?_
        refine te ?_
        obtain rfl := si H
        have H := Ho8
        dsimp only at H
        exact fF H
       rintro _ H
       have H : (Za n x0 x1) = some r := H
       unfold Za at H
       refine tS ?_
       refine rA 2 ?_
       refine kF x0.F zB.row ?_
       refine uA 1 0x6000000000000000000c 12 ?_
       obtain ⟨o5,eo5,Ho5⟩ := bs H
       clear H
       refine Tr.mid (ι := Unit) (fun v => ⟨126,0,[sA 3 3 11 0,sA 2 2 11 0],[(3,(CV.frzRow (zA.row x1))),(2,(CV.frzRow (zA.row x0)))]⟩) (fun v => Zb n x0 x1 = some r) ?_ ?_
       ·refine tB ?_
        refine Tr.loop (ι := Nat × (Int)) (fun v => ⟨126,0,[sI 78 v.2,sI 77 (x0.F.length : Int),sA 3 3 11 0,sA 2 2 11 0],[(3,(CV.frzRow (zA.row x1))),(2,(CV.frzRow (zA.row x0)))]⟩) (fun v => zt n v.1 x0 x1 v.2 = some o5) (fun v => v.1) (n,0) eo5 (St.sub_of [78,77,3,2] [3,2] kr) ?_
        rintro ⟨mo5,y4⟩ H
        have H : zt n mo5 x0 x1 y4 = some o5 := H
        obtain _ | mo5 := mo5
        ·exact nN H
        rw [zt] at H
        refine gA 1 0xe000000000000000000c 12 ?_
        refine tS ?_
        obtain ⟨h11,H⟩ | ⟨h11,H⟩ := bC H
        ·refine nA h11 ?_
         refine Tr.exit ?_
         refine aJ ?_
         obtain rfl := si H
         have H := Ho5
         dsimp only at H
         exact jA () H [3,2] [3,2]
        refine tA h11 ?_
        refine tK ?_
        refine tS ?_
        refine tB ?_
        refine gA 2 0x6000000000000000004c 12 ?_
        obtain ⟨v6,ev6,H⟩ := bs H
        obtain ⟨v7,ev7,H⟩ := bs H
        refine Tr.draws mixed 11 kr ⟨126,0,[sB 91 (!((v6.Tag == v7.Tag) && ((v6.Mac == v7.Mac) && ((v6.Port == v7.Port) && ((v6.Age == v7.Age) && ((v6.Sc == v7.Sc) && true)))))),sI 78 y4,sI 77 (x0.F.length : Int),sA 3 3 11 0,sA 2 2 11 0],[(3,(CV.frzRow (zA.row x1))),(2,(CV.frzRow (zA.row x0)))]⟩ (fun cx => ?_) ?_
        ·refine aA [(0,[]),(1,[10]),(2,[])] 8 [⟨[10],25,81,82⟩] fun cx => ?_
         refine aI tOk 3 25 0 82 83 84 none ⟨(.box 2),[(0,0)],3,false,5,(CV.frzEs (x0.F.map zB.row))⟩ y4 (zB.row v6) _ kr kr kr kr kr kr rfl (ZF ev6) rfl (fun cx => ?_)
         refine aA [(4,[]),(5,[]),(6,[10]),(7,[])] 3 [⟨[10],25,86,87⟩,⟨[10],25,81,82⟩] fun cx => ?_
         refine aI tOk 8 25 0 87 88 89 none ⟨(.box 3),[(0,0)],3,false,5,(CV.frzEs (x1.F.map zB.row))⟩ y4 (zB.row v7) _ kr kr kr kr kr kr rfl (ZF ev7) rfl (fun cx => ?_)
         refine aA [(9,[])] 1 [⟨[10],25,86,87⟩,⟨[10],25,81,82⟩] fun cx => ?_
         refine bA 10 ?_
         refine LAt.eqSG true (t := 103) (ty := 103) (ty' := 4) (x := (.tmp 85)) (y := (.tmp 90)) (d := 91) (g := none) ((v6.Tag == v7.Tag) && ((v6.Mac == v7.Mac) && ((v6.Port == v7.Port) && ((v6.Age == v7.Age) && ((v6.Sc == v7.Sc) && true))))) _ kr kr kr kr rfl ?_
         refine fA ?_
         exact eE [91,78,77,3,2] [3,2]
        refine sT ⟨126,0,[sB 91 (!((v6.Tag == v7.Tag) && ((v6.Mac == v7.Mac) && ((v6.Port == v7.Port) && ((v6.Age == v7.Age) && ((v6.Sc == v7.Sc) && true)))))),sI 78 y4,sI 77 (x0.F.length : Int),sA 3 3 11 0,sA 2 2 11 0],[(3,(CV.frzRow (zA.row x1))),(2,(CV.frzRow (zA.row x0)))]⟩ ?_
        cases h12 : (!((v6.Tag == v7.Tag) && ((v6.Mac == v7.Mac) && ((v6.Port == v7.Port) && ((v6.Age == v7.Age) && ((v6.Sc == v7.Sc) && true))))))
        ·have H := zI h12 H
         refine nB_ ?_
         refine tK ?_
         refine eA 2 0x6000000000000000000c 12 ?_
         exact jB mo5 (IntKind.wrap .i64 (y4 + 1)) H [78,77,3,2] [3,2]
        have H := zJ h12 H
        refine tB_ ?_
        refine gA 1 16 0 ?_
        refine te ?_
        obtain rfl := si H
        have H := Ho5
        dsimp only at H
        exact fF H
       rintro _ H
       have H : (Zb n x0 x1) = some r := H
       unfold Zb at H
       refine rA 6 ?_
       refine sL 0x400000000000000000000000c 12 ⟨126,0,[sB 98 (x0.Tk == x1.Tk),sA 3 3 11 0,sA 2 2 11 0],[(3,(CV.frzRow (zA.row x1))),(2,(CV.frzRow (zA.row x0)))]⟩ ?_
       cases h7 : (x0.Tk == x1.Tk)
       ·have H := zI h7 H
        refine uA 28 16 0 ?_
        exact te (fF H)
       have H := zJ h7 H
       refine lA 7 ?_
       refine sL 0x20000000000000000000000000c 12 ⟨126,0,[sB 105 (x0.Pa == x1.Pa),sA 3 3 11 0,sA 2 2 11 0],[(3,(CV.frzRow (zA.row x1))),(2,(CV.frzRow (zA.row x0)))]⟩ ?_
       cases h8 : (x0.Pa == x1.Pa)
       ·have H := zI h8 H
        refine uA 21 16 0 ?_
        exact te (fF H)
       have H := zJ h8 H
       refine lA 7 ?_
       refine sL 0x1000000000000000000000000000c 12 ⟨126,0,[sB 112 (x0.Wo == x1.Wo),sA 3 3 11 0,sA 2 2 11 0],[(3,(CV.frzRow (zA.row x1))),(2,(CV.frzRow (zA.row x0)))]⟩ ?_
       cases h9 : (x0.Wo == x1.Wo)
       ·have H := zI h9 H
        refine uA 14 16 0 ?_
        exact te (fF H)
       have H := zJ h9 H
       refine lA 7 ?_
       refine sL 0x80000000000000000000000000000c 12 ⟨126,0,[sB 119 (x0.Dr == x1.Dr),sA 3 3 11 0,sA 2 2 11 0],[(3,(CV.frzRow (zA.row x1))),(2,(CV.frzRow (zA.row x0)))]⟩ ?_
       cases h10 : (x0.Dr == x1.Dr)
       ·have H := zI h10 H
        refine uA 7 16 0 ?_
        exact te (fF H)
       have H := zJ h10 H
       refine uA 7 16 0 ?_
       exact te (fJ [(false,[cB (x0.Ve == x1.Ve)])] H)
      refine tA h6 ?_
      refine gA 1 16 0 ?_
      exact te (fF H)
     have H := zJ h5 H
     refine uA 9 72057594037927948 12 ?_
     refine tB_ ?_
     refine gA 1 16 0 ?_
     exact te (fF H)
    have H := zJ h4 H
    refine uA 19 72057594037927948 12 ?_
    refine tB_ ?_
    refine gA 1 16 0 ?_
    exact te (fF H)
   have H := zJ h3 H
   refine uA 28 72057594037927948 12 ?_
   refine tB_ ?_
   refine gA 1 16 0 ?_
   exact te (fF H)
  have H := zJ h2 H
  refine uA 37 72057594037927948 12 ?_
  refine tB_ ?_
  refine gA 1 16 0 ?_
  exact te (fF H)
 have H := zJ h1 H
 refine uA 44 72057594037927948 12 ?_
 refine tB_ ?_
 refine gA 1 16 0 ?_
 exact te (fF H)
def qv (n : Nat) (x0 : zA) (x1 : Int) (x2 : Bool) : Option (zA) :=
  ((ZV n x0).bind fun r1 => ((YP n x0 x1).bind fun r2 => (bif r2 then ((idx x0.Ps x1).bind fun v3 => ((idx r1.Ps x1).bind fun v4 => ((q6 n (⟨r1.Id,r1.Name,(r1.Ps.set (x1.toNat) (⟨x2,v3.Co,false,(⟨0,0,0,0,0⟩ : Vec)⟩ : Pt)),r1.F,r1.V,r1.Tk,r1.Pa,r1.Wo,r1.Dr,r1.Ve⟩ : zA)).bind fun r5 => (some r5)))) else (some r1))))
def zJz : Tab := ⟨13,[0,1,0,0,0,16,0,96,128,256,520,2047,4095],[0,1,0,0,0,16,0,96,128,256,520,6,3072],[0,1,0,0,0,16,0,112,240,496,1016,2047,4095]⟩
theorem zCd : z9 (rg Tryz.f19 3) zJz = true := kr
theorem YL (n : Nat) (x0 : zA) (x1 : Int) (x2 : Bool) (r : zA) (H : qv n x0 x1 x2 = some r) : zG Tryz.prog 19 [.val true (CV.frzRow (zA.row x0)),.val false [.lit (.int .i64 x1)],.val false [.lit (.bool x2)]] [.val true (zA.row r)] [] := by
 refine cW Tryz.func19 (fun g d => sl [g 0,g 1,sl [g 2] (cn 12 (sl [d 3] (g 4)) .skip),g 5] .ret) [.cell 6 31] fun cx => ?_
 unfold qv at H
 refine gA 2 78 72 ?_
 refine rA 1 ?_
 obtain ⟨r1,er1,H⟩ := bs H
 refine vA [.rd] (zAE n x0 r1 er1) ?_
 refine uA 2 206 200 ?_
 refine tS ?_
 refine rA 2 ?_
 obtain ⟨r2,er2,H⟩ := bs H
 refine vA [.rd,.rd] (zD6 n x0 x1 r2 er2) ?_
 refine dA 4302 200 ?_
 cases h1 : r2
 ·have H := zI h1 H
  refine nB_ ?_
  refine tK ?_
  refine gA 2 64 64 ?_
  exact te (fJ [(true,(zA.row r1))] H)
 have H := zJ h1 H
 refine tB_ ?_
 obtain ⟨v3,ev3,H⟩ := bs H
 obtain ⟨v4,ev4,H⟩ := bs H
 refine Tr.draws mixed 13 kr ⟨27,0,[sA 7 7 11 0,sA 6 6 11 0],[(7,[cI r1.Id,cS r1.Name,cL 8 (r1.Ps.set (x1.toNat) (⟨x2,v3.Co,false,(⟨0,0,0,0,0⟩ : Vec)⟩ : Pt)) Pt.row,cL 5 r1.F zB.row,cL 3 r1.V.Rows zC.row,cL 1 r1.V.Pv intRow,cI r1.Tk,cI r1.Pa,cI r1.Wo,cI r1.Dr,cI r1.Ve]),(6,[cI 0,cS (⟨#[]⟩ : ByteArray),cL 8 ([] : List Pt) Pt.row,cL 5 ([] : List zB) zB.row,cL 3 ([] : List zC) zC.row,cL 1 ([] : List Int) intRow,cI 0,cI 0,cI 0,cI 0,cI 0])]⟩ (fun cx => ?_) ?_
 ·refine mA zCd [(0,[]),(1,[12]),(2,[]),(3,[]),(4,[]),(5,[10,12]),(6,[])] 6 [⟨[10,12],24,17,18⟩,⟨[12],24,13,14⟩] fun cx => ?_
  refine iN zCd 7 Pt.row ev3 fun cx => ?_
  refine mA zCd [(8,[]),(9,[])] 3 [⟨[10,12],24,17,18⟩,⟨[12],24,13,14⟩] fun cx => ?_
  refine mC zCd 10 ?_
  refine lA 1 ?_
  refine fA ?_
  refine oN zCd 11 Pt.row ev4 fun cx => ?_
  refine mC zCd 12 ?_
  refine LAt.storeB tOk (t := 100) (ty := 0) (ad := (.tmp 24)) (x := (.tmp 23)) (g := none) (tI 100) true [cB x2,cI v3.Co,cB false,cI 0,cI 0,cI 0,cI 0,cI 0] 7 2 (x1.toNat) 8 0 8 r1.Ps Pt.row v4 (⟨x2,v3.Co,false,(⟨0,0,0,0,0⟩ : Vec)⟩ : Pt) kr kr kr kr kr kr kr kr (Qx ev4).2 kr kr kr kr ?_
  refine fA ?_
  exact mE zCd [7,6] [7,6]
 refine Tr.at ?_
 obtain ⟨r5,er5,H⟩ := bs H
 refine LAt.callL tOk [.lend] (f := 89) (av := #[.tmp 7]) (ats := #[31]) (d := (some 25)) (ty := 0) (g := none) kr kr kr [] (J0 n (⟨r1.Id,r1.Name,(r1.Ps.set (x1.toNat) (⟨x2,v3.Co,false,(⟨0,0,0,0,0⟩ : Vec)⟩ : Pt)),r1.F,r1.V,r1.Tk,r1.Pa,r1.Wo,r1.Dr,r1.Ve⟩ : zA) r5 er5) kr (.inl rfl) ?_
 refine dA 192 192 ?_
 refine gA 2 64 64 ?_
 exact te (fJ [(true,(zA.row r5))] H)
def qw (n : Nat) (x0 : zA) (x1 : Int) (x2 : Bool) : Option (zA) :=
  ((Zx n x0).bind fun r1 => ((Qg n x0 x1).bind fun r2 => (bif (!r2) then (some r1) else ((idx x0.Ps x1).bind fun v3 => ((idx r1.Ps x1).bind fun v4 => ((ZP n (⟨r1.Id,r1.Name,(r1.Ps.set (x1.toNat) (⟨x2,v3.Co,false,(⟨0,0,0,0,0⟩ : Vec)⟩ : Pt)),r1.F,r1.V,r1.Tk,r1.Pa,r1.Wo,r1.Dr,r1.Ve⟩ : zA)).bind fun r5 => (some r5)))))))
def zJ0 : Tab := ⟨13,[0,1,0,0,0,16,0,96,128,256,520,2047,4095],[0,1,0,0,0,16,0,96,128,256,520,6,3072],[0,1,0,0,0,16,0,112,240,496,1016,2047,4095]⟩
theorem zCe : z9 (rg Tryz.f20 4) zJ0 = true := kr
theorem YR (n : Nat) (x0 : zA) (x1 : Int) (x2 : Bool) (r : zA) (H : qw n x0 x1 x2 = some r) : zG Tryz.prog 20 [.val true (CV.frzRow (zA.row x0)),.val false [.lit (.int .i64 x1)],.val false [.lit (.bool x2)]] [.val true (zA.row r)] [] := by
 refine cW Tryz.func20 (fun g d => sl [g 0,g 1,sl [g 2] (cn 13 (sl [g 3] .ret) .skip),d 4,g 5] .ret) [.cell 6 31] fun cx => ?_
 unfold qw at H
 refine gA 2 78 72 ?_
 refine rA 1 ?_
 obtain ⟨r1,er1,H⟩ := bs H
 refine vA [.rd] (zAN n x0 r1 er1) ?_
 refine uA 2 206 200 ?_
 refine tS ?_
 refine rA 2 ?_
 obtain ⟨r2,er2,H⟩ := bs H
 refine vA [.rd,.rd] (zC4 n x0 x1 r2 er2) ?_
 refine uA 1 8398 200 ?_
 obtain ⟨h1,H⟩ | ⟨h1,H⟩ := bC H
 ·refine nA h1 ?_
  refine tK ?_
  obtain ⟨v3,ev3,H⟩ := bs H
  obtain ⟨v4,ev4,H⟩ := bs H
  refine Tr.draws mixed 13 kr ⟨29,0,[sA 7 7 11 0,sA 6 6 11 0],[(7,[cI r1.Id,cS r1.Name,cL 8 (r1.Ps.set (x1.toNat) (⟨x2,v3.Co,false,(⟨0,0,0,0,0⟩ : Vec)⟩ : Pt)) Pt.row,cL 5 r1.F zB.row,cL 3 r1.V.Rows zC.row,cL 1 r1.V.Pv intRow,cI r1.Tk,cI r1.Pa,cI r1.Wo,cI r1.Dr,cI r1.Ve]),(6,[cI 0,cS (⟨#[]⟩ : ByteArray),cL 8 ([] : List Pt) Pt.row,cL 5 ([] : List zB) zB.row,cL 3 ([] : List zC) zC.row,cL 1 ([] : List Int) intRow,cI 0,cI 0,cI 0,cI 0,cI 0])]⟩ (fun cx => ?_) ?_
  ·refine mA zCe [(0,[]),(1,[12]),(2,[]),(3,[]),(4,[]),(5,[10,12]),(6,[])] 6 [⟨[10,12],24,19,20⟩,⟨[12],24,15,16⟩] fun cx => ?_
   refine iN zCe 7 Pt.row ev3 fun cx => ?_
   refine mA zCe [(8,[]),(9,[])] 3 [⟨[10,12],24,19,20⟩,⟨[12],24,15,16⟩] fun cx => ?_
   refine mC zCe 10 ?_
   refine lA 1 ?_
   refine fA ?_
   refine oN zCe 11 Pt.row ev4 fun cx => ?_
   refine mC zCe 12 ?_
   refine LAt.storeB tOk (t := 100) (ty := 0) (ad := (.tmp 26)) (x := (.tmp 25)) (g := none) (tI 100) true [cB x2,cI v3.Co,cB false,cI 0,cI 0,cI 0,cI 0,cI 0] 7 2 (x1.toNat) 8 0 8 r1.Ps Pt.row v4 (⟨x2,v3.Co,false,(⟨0,0,0,0,0⟩ : Vec)⟩ : Pt) kr kr kr kr kr kr kr kr (Qx ev4).2 kr kr kr kr ?_
   refine fA ?_
   exact mE zCe [7,6] [7,6]
  refine rA 1 ?_
  obtain ⟨r5,er5,H⟩ := bs H
  refine vA [.own] (zAd n (⟨r1.Id,r1.Name,(r1.Ps.set (x1.toNat) (⟨x2,v3.Co,false,(⟨0,0,0,0,0⟩ : Vec)⟩ : Pt)),r1.F,r1.V,r1.Tk,r1.Pa,r1.Wo,r1.Dr,r1.Ve⟩ : zA) r5 er5) ?_
  refine uA 1 64 64 ?_
  exact te (fJ [(true,(zA.row r5))] H)
 refine tA h1 ?_
 refine gA 2 64 64 ?_
 exact te (fJ [(true,(zA.row r1))] H)
def JN (n : Nat) (y3 : (List zB)) : Option ((List zB)) :=
  (some y3)
def qy (n : Nat) : Nat → (List zB) → Int → (List zB) → Option (((List zB)) ⊕ ((List zB)))
  | 0,_,_,_ => none
  | mo4 + 1,x0,y1,y2 => (bif (decide (y1 < (x0.length : Int))) then ((idx x0 y1).bind fun v5 => (bif (!v5.Sc) then (bif (decide (v5.Age ≥ 4)) then (qy n mo4 x0 (IntKind.wrap .i64 (y1 + 1)) y2) else (bif (decide (y2.length + [(⟨v5.Tag,v5.Mac,v5.Port,(IntKind.wrap .i64 (v5.Age + 1)),v5.Sc⟩ : zB)].length ≤ 268435456)) then (qy n mo4 x0 (IntKind.wrap .i64 (y1 + 1)) (y2 ++ [(⟨v5.Tag,v5.Mac,v5.Port,(IntKind.wrap .i64 (v5.Age + 1)),v5.Sc⟩ : zB)])) else none)) else (bif (decide (y2.length + [v5].length ≤ 268435456)) then (qy n mo4 x0 (IntKind.wrap .i64 (y1 + 1)) (y2 ++ [v5])) else none))) else (some (Sum.inl y2)))
def Y6 (n : Nat) (x0 : (List zB)) : Option ((List zB)) :=
  ((qy n n x0 0 ([] : List zB)).bind fun o => match o with | .inl y3 => (JN n y3) | .inr r => some r)
theorem zG7 (n : Nat) (x0 : (List zB)) (r : (List zB)) (H : Y6 n x0 = some r) : zG Tryz.prog 94 [.val false [.sl false 5 (CV.frzEs (x0.map zB.row))]] [.val false [.sl true 5 (r.map zB.row)]] [] := by
 refine cW Tryz.func94 (fun g d => sl [g 0,g 1,sl [g 2] (.block 0 (.loop (sl [g 3,cn 9 .skip (.exit 0),.block 1 (sl [g 4,sl [g 5] (cn 14 (sl [sl [g 6] (cn 17 (.exit 1) .skip)] (g 7)) .skip)] (g 8))] (g 9)))),g 10] .ret) [.tmp 2] fun cx => ?_
 unfold Y6 at H
 refine gA 1 1 0 ?_
 refine gA 1 9 0 ?_
 refine tS ?_
 refine rA 1 ?_
 refine kF x0 zB.row ?_
 refine uA 1 456 0 ?_
 obtain ⟨o4,eo4,Ho4⟩ := bs H
 clear H
 refine Tr.mid (ι := (List zB)) (fun v => ⟨28,0,[sC 3 (cL 5 v zB.row)],[]⟩) (fun v => JN n v = some r) ?_ ?_
 ·refine tB ?_
  refine Tr.loop (ι := Nat × (Int × (List zB))) (fun v => ⟨28,0,[sI 8 v.2.1,sI 7 (x0.length : Int),sC 6 (cF 5 x0 zB.row),sC 3 (cL 5 v.2.2 zB.row)],[]⟩) (fun v => qy n v.1 x0 v.2.1 v.2.2 = some o4) (fun v => v.1) (n,(0,([] : List zB))) eo4 (St.sub_of [8,7,6,3] [] kr) ?_
  rintro ⟨mo4,y1,y2⟩ H
  have H : qy n mo4 x0 y1 y2 = some o4 := H
  obtain _ | mo4 := mo4
  ·exact nN H
  rw [qy] at H
  refine gA 1 968 0 ?_
  refine tS ?_
  obtain ⟨h1,H⟩ | ⟨h1,H⟩ := bC H
  ·refine nA h1 ?_
   refine Tr.exit ?_
   refine aJ ?_
   obtain rfl := si H
   have H := Ho4
   dsimp only at H
   exact jA y2 H [3] []
  refine tA h1 ?_
  refine tK ?_
  refine tS ?_
  refine tB ?_
  refine tR ?_
  obtain ⟨v5,ev5,H⟩ := bs H
  refine iA zB.row ev5 ?_
  refine uA 3 488 32 ?_
  refine tS ?_
  refine gA 3 16872 32 ?_
  obtain ⟨h2,H⟩ | ⟨h2,H⟩ := bC H
  ·refine nA h2 ?_
   refine tK ?_
   refine Tr.at ?_
   refine lA 3 ?_
   obtain ⟨hg6,H⟩ := gs H
   refine LAt.appMU tOk (t := 25) (ty := 25) (e := 103) (x := (.tmp 22)) (y := (.tmp 24)) (d := 25) (g := none) (tI 103) zB.row y2 [v5] kr kr kr kr kr kr kr kr kr kr hg6 ?_
   refine LAt.moveU (T := lk tab) (ty := 25) (x := (.tmp 25)) (d := 3) (g := none) false [cL 5 (y2 ++ [v5]) zB.row] kr kr kr kr kr ?_
   refine dA 456 0 ?_
   refine eA 2 456 0 ?_
   exact jB mo4 ((IntKind.wrap .i64 (y1 + 1)),(y2 ++ [v5])) H [8,7,6,3] []
  refine tA h2 ?_
  refine tS ?_
  refine gA 3 131560 32 ?_
  obtain ⟨h3,H⟩ | ⟨h3,H⟩ := bC H
  ·refine nA h3 ?_
   refine tK ?_
   refine eA 5 488 32 ?_
   refine Tr.at ?_
   refine lA 3 ?_
   obtain ⟨hg7,H⟩ := gs H
   refine LAt.appMU tOk (t := 25) (ty := 25) (e := 103) (x := (.tmp 22)) (y := (.tmp 24)) (d := 25) (g := none) (tI 103) zB.row y2 [(⟨v5.Tag,v5.Mac,v5.Port,(IntKind.wrap .i64 (v5.Age + 1)),v5.Sc⟩ : zB)] kr kr kr kr kr kr kr kr kr kr hg7 ?_
   refine LAt.moveU (T := lk tab) (ty := 25) (x := (.tmp 25)) (d := 3) (g := none) false [cL 5 (y2 ++ [(⟨v5.Tag,v5.Mac,v5.Port,(IntKind.wrap .i64 (v5.Age + 1)),v5.Sc⟩ : zB)]) zB.row] kr kr kr kr kr ?_
   refine dA 456 0 ?_
   refine eA 2 456 0 ?_
   exact jB mo4 ((IntKind.wrap .i64 (y1 + 1)),(y2 ++ [(⟨v5.Tag,v5.Mac,v5.Port,(IntKind.wrap .i64 (v5.Age + 1)),v5.Sc⟩ : zB)])) H [8,7,6,3] []
  refine tA h3 ?_
  refine Tr.exit ?_
  refine aJ ?_
  refine eA 2 456 0 ?_
  exact jB mo4 ((IntKind.wrap .i64 (y1 + 1)),y2) H [8,7,6,3] []
 rintro y3 H
 have H : (JN n y3) = some r := H
 unfold JN at H
 refine gA 2 12 0 ?_
 exact te (fJ [(false,[cL 5 y3 zB.row])] H)
def Z8 (n : Nat) (x0 : zA) : Option (zA) :=
  ((ZV n x0).bind fun r1 => ((z8 n x0).bind fun r2 => (bif r2 then ((JQ n x0.Tk).bind fun r3 => ((Y6 n x0.F).bind fun r4 => ((q6 n (⟨r1.Id,r1.Name,r1.Ps,r4,r1.V,r3,r1.Pa,r1.Wo,r1.Dr,r1.Ve⟩ : zA)).bind fun r5 => (some r5)))) else (some r1))))
theorem zAn (n : Nat) (x0 : zA) (r : zA) (H : Z8 n x0 = some r) : zG Tryz.prog 21 [.val true (CV.frzRow (zA.row x0))] [.val true (zA.row r)] [] := by
 refine cW Tryz.func21 (fun g d => sl [g 0,g 1,sl [g 2] (cn 7 (sl [g 3,g 4] (g 5)) .skip),g 6] .ret) [.cell 2 31] fun cx => ?_
 unfold Z8 at H
 refine gA 2 6 6 ?_
 refine rA 1 ?_
 obtain ⟨r1,er1,H⟩ := bs H
 refine vA [.rd] (zAE n x0 r1 er1) ?_
 refine uA 2 14 14 ?_
 refine tS ?_
 refine rA 1 ?_
 obtain ⟨r2,er2,H⟩ := bs H
 refine vA [.rd] (Zt n x0 r2 er2) ?_
 refine dA 142 14 ?_
 cases h1 : r2
 ·have H := zI h1 H
  refine nB_ ?_
  refine tK ?_
  refine gA 2 4 4 ?_
  exact te (fJ [(true,(zA.row r1))] H)
 have H := zJ h1 H
 refine tB_ ?_
 refine rA 2 ?_
 obtain ⟨r3,er3,H⟩ := bs H
 refine vA [.rd] (zF2 n x0.Tk r3 er3) ?_
 refine uA 2 14 14 ?_
 refine rA 2 ?_
 obtain ⟨r4,er4,H⟩ := bs H
 refine vA [.rd] (zG7 n x0.F r4 er4) ?_
 refine uA 2 12 12 ?_
 refine Tr.at ?_
 obtain ⟨r5,er5,H⟩ := bs H
 refine LAt.callL tOk [.lend] (f := 89) (av := #[.tmp 3]) (ats := #[31]) (d := (some 16)) (ty := 0) (g := none) kr kr kr [] (J0 n (⟨r1.Id,r1.Name,r1.Ps,r4,r1.V,r3,r1.Pa,r1.Wo,r1.Dr,r1.Ve⟩ : zA) r5 er5) kr (.inl rfl) ?_
 refine dA 12 12 ?_
 refine gA 2 4 4 ?_
 exact te (fJ [(true,(zA.row r5))] H)
def Y1 (n : Nat) : Option (Bool) :=
  (some true)
def qP (n : Nat) : Nat → (List Int) → (List Int) → Int → Option ((Unit) ⊕ (Bool))
  | 0,_,_,_ => none
  | mo2 + 1,x0,x1,y1 => (bif (decide (y1 < (x0.length : Int))) then ((idx x0 y1).bind fun v3 => ((idx x1 y1).bind fun v4 => (bif (v3 != v4) then (some (Sum.inr false)) else (qP n mo2 x0 x1 (IntKind.wrap .i64 (y1 + 1)))))) else (some (Sum.inl ())))
def Yk (n : Nat) (x0 : (List Int)) (x1 : (List Int)) : Option (Bool) :=
  (bif ((x0.length : Int) != (x1.length : Int)) then (some false) else ((qP n n x0 x1 0).bind fun o => match o with | .inl _ => (Y1 n) | .inr r => some r))
theorem zG0 (n : Nat) (x0 : (List Int)) (x1 : (List Int)) (r : Bool) (H : Yk n x0 x1 = some r) : zG Tryz.prog 106 [.val false [.sl false 1 (CV.frzEs (x0.map intRow))],.val false [.sl false 1 (CV.frzEs (x1.map intRow))]] [.val false [.lit (.bool r)]] [] := by
 refine cW Tryz.func106 (fun g d => sl [g 0,sl [g 1] (cn 10 (sl [g 2] .ret) .skip),sl [g 3] (.block 0 (.loop (sl [sl [g 4] (cn 14 .skip (.exit 0)),.block 1 (sl [d 6] (cn 25 (sl [g 7] .ret) .skip))] (g 5)))),g 8] .ret) [.tmp 4] fun cx => ?_
 unfold Yk at H
 refine gA 1 3 0 ?_
 refine tS ?_
 refine rA 1 ?_
 refine kF x0 intRow ?_
 refine lA 1 ?_
 refine kF x1 intRow ?_
 refine uA 1 1027 0 ?_
 obtain ⟨h1,H⟩ | ⟨h1,H⟩ := bC H
 ·refine nA h1 ?_
  refine tK ?_
  refine tS ?_
  refine gA 1 35 0 ?_
  obtain ⟨o2,eo2,Ho2⟩ := bs H
  clear H
  refine Tr.mid (ι := Unit) (fun v => ⟨26,0,[],[]⟩) (fun v => Y1 n = some r) ?_ ?_
  ·refine tB ?_
   refine Tr.loop (ι := Nat × (Int)) (fun v => ⟨26,0,[sI 5 v.2,sC 0 (cF 1 x0 intRow),sC 1 (cF 1 x1 intRow)],[]⟩) (fun v => qP n v.1 x0 x1 v.2 = some o2) (fun v => v.1) (n,0) eo2 (St.sub_of [5,0,1] [] kr) ?_
   rintro ⟨mo2,y1⟩ H
   have H : qP n mo2 x0 x1 y1 = some o2 := H
   obtain _ | mo2 := mo2
   ·exact nN H
   rw [qP] at H
   refine tS ?_
   refine rA 2 ?_
   refine kF x0 intRow ?_
   refine uA 1 16419 0 ?_
   obtain ⟨h2,H⟩ | ⟨h2,H⟩ := bC H
   ·refine nA h2 ?_
    refine Tr.exit ?_
    refine aJ ?_
    obtain rfl := si H
    have H := Ho2
    dsimp only at H
    exact jA () H [] []
   refine tA h2 ?_
   refine tK ?_
   refine tS ?_
   refine tB ?_
   obtain ⟨v3,ev3,H⟩ := bs H
   obtain ⟨v4,ev4,H⟩ := bs H
   refine Tr.draws mixed 9 kr ⟨26,0,[sB 25 (v3 != v4),sI 5 y1,sC 0 (cF 1 x0 intRow),sC 1 (cF 1 x1 intRow)],[]⟩ (fun cx => ?_) ?_
   ·refine aA [(0,[]),(1,[])] 7 [] fun cx => ?_
    refine aI tOk 2 27 0 17 18 19 none ⟨(.slot 17),[],0,false,1,(CV.frzEs (x0.map intRow))⟩ y1 [cI v3] _ kr kr kr kr kr kr rfl (ZF ev3) rfl (fun cx => ?_)
    refine aA [(3,[]),(4,[]),(5,[])] 3 [] fun cx => ?_
    refine aI tOk 6 27 0 21 22 23 none ⟨(.slot 21),[],0,false,1,(CV.frzEs (x1.map intRow))⟩ y1 [cI v4] _ kr kr kr kr kr kr rfl (ZF ev4) rfl (fun cx => ?_)
    refine aA [(7,[]),(8,[])] 0 [] fun cx => ?_
    exact eE [25,5,0,1] []
   refine sT ⟨26,0,[sB 25 (v3 != v4),sI 5 y1,sC 0 (cF 1 x0 intRow),sC 1 (cF 1 x1 intRow)],[]⟩ ?_
   cases h3 : (v3 != v4)
   ·have H := zI h3 H
    refine nB_ ?_
    refine tK ?_
    refine eA 3 35 0 ?_
    exact jB mo2 (IntKind.wrap .i64 (y1 + 1)) H [5,0,1] []
   have H := zJ h3 H
   refine tB_ ?_
   refine gA 1 16 0 ?_
   refine te ?_
   obtain rfl := si H
   have H := Ho2
   dsimp only at H
   exact fF H
  rintro _ H
  have H : (Y1 n) = some r := H
  unfold Y1 at H
  refine gA 1 16 0 ?_
  exact te (fT H)
 refine tA h1 ?_
 refine gA 1 16 0 ?_
 exact te (fF H)
def QF (n : Nat) : Option (Bool) :=
  (some true)
def qJ (n : Nat) : Nat → zA → zA → Int → Option ((Unit) ⊕ (Bool))
  | 0,_,_,_ => none
  | mo5 + 1,x0,x1,y4 => (bif (decide (y4 < (x0.V.Rows.length : Int))) then ((idx x0.V.Rows y4).bind fun v6 => ((idx x1.V.Rows y4).bind fun v7 => (bif (!((v6.Id == v7.Id) && ((v6.Members == v7.Members) && ((v6.Bare == v7.Bare) && true)))) then (some (Sum.inr false)) else (qJ n mo5 x0 x1 (IntKind.wrap .i64 (y4 + 1)))))) else (some (Sum.inl ())))
def QE (n : Nat) (x0 : zA) (x1 : zA) : Option (Bool) :=
  ((qJ n n x0 x1 0).bind fun o => match o with | .inl _ => (QF n) | .inr r => some r)
def qK (n : Nat) : Nat → zA → zA → Int → Option ((Unit) ⊕ (Bool))
  | 0,_,_,_ => none
  | mo8 + 1,x0,x1,y3 => (bif (decide (y3 < (x0.F.length : Int))) then ((idx x0.F y3).bind fun v9 => ((idx x1.F y3).bind fun v10 => (bif (!((v9.Tag == v10.Tag) && ((v9.Mac == v10.Mac) && ((v9.Port == v10.Port) && ((v9.Age == v10.Age) && ((v9.Sc == v10.Sc) && true)))))) then (some (Sum.inr false)) else (qK n mo8 x0 x1 (IntKind.wrap .i64 (y3 + 1)))))) else (some (Sum.inl ())))
def QD (n : Nat) (x0 : zA) (x1 : zA) : Option (Bool) :=
  ((qK n n x0 x1 0).bind fun o => match o with | .inl _ => (QE n x0 x1) | .inr r => some r)
def qL (n : Nat) : Nat → zA → zA → Int → Option ((Unit) ⊕ (Bool))
  | 0,_,_,_ => none
  | mo11 + 1,x0,x1,y2 => (bif (decide (y2 < (x0.Ps.length : Int))) then ((idx x0.Ps y2).bind fun v12 => ((idx x1.Ps y2).bind fun v13 => (bif (!((v12.Up == v13.Up) && ((v12.Co == v13.Co) && ((v12.Has == v13.Has) && (((v12.Hd.Root == v13.Hd.Root) && ((v12.Hd.Co == v13.Hd.Co) && ((v12.Hd.Hops == v13.Hd.Hops) && ((v12.Hd.Bridge == v13.Hd.Bridge) && ((v12.Hd.Port == v13.Hd.Port) && true))))) && true))))) then (some (Sum.inr false)) else (qL n mo11 x0 x1 (IntKind.wrap .i64 (y2 + 1)))))) else (some (Sum.inl ())))
def qS (n : Nat) (x0 : zA) (x1 : zA) : Option (Bool) :=
  (bif (x0.Id != x1.Id) then (some false) else (bif (!(x0.Name.toList == x1.Name.toList)) then (some false) else (bif (x0.Tk != x1.Tk) then (some false) else (bif (x0.Pa != x1.Pa) then (some false) else (bif (x0.Wo != x1.Wo) then (some false) else (bif (x0.Dr != x1.Dr) then (some false) else (bif (x0.Ve != x1.Ve) then (some false) else (bif ((x0.Ps.length : Int) != (x1.Ps.length : Int)) then (some false) else (bif ((x0.F.length : Int) != (x1.F.length : Int)) then (some false) else (bif ((x0.V.Rows.length : Int) != (x1.V.Rows.length : Int)) then (some false) else ((Yk n x0.V.Pv x1.V.Pv).bind fun r1 => (bif (!r1) then (some false) else ((qL n n x0 x1 0).bind fun o => match o with | .inl _ => (QD n x0 x1) | .inr r => some r)))))))))))))
def zJh : Tab := ⟨13,[0,1,2,0,12,16,0,64,128,0,768,1024,2080],[0,1,2,0,12,16,0,64,128,0,768,1024,2080],[0,1,3,0,15,31,0,64,192,0,960,1984,4095]⟩
theorem zBX : z9 (rg Tryz.f25 16) zJh = true := kr
theorem zAL (n : Nat) (x0 : zA) (x1 : zA) (r : Bool) (H : qS n x0 x1 = some r) : zG Tryz.prog 25 [.val true (CV.frzRow (zA.row x0)),.val true (CV.frzRow (zA.row x1))] [.val false [.lit (.bool r)]] [] := by
 refine cW Tryz.func25 (fun g d => sl [g 0,sl [g 1] (cn 93 (sl [g 2] .ret) .skip),sl [g 3] (.block 0 (.loop (sl [sl [g 4] (cn 98 .skip (.exit 0)),.block 1 (sl [d 6] (cn 111 (sl [g 7] .ret) .skip))] (g 5)))),sl [g 8] (.block 2 (.loop (sl [sl [g 9] (cn 116 .skip (.exit 2)),.block 3 (sl [d 11] (cn 129 (sl [g 12] .ret) .skip))] (g 10)))),sl [g 13] (.block 4 (.loop (sl [sl [g 14] (cn 135 .skip (.exit 4)),.block 5 (sl [d 16] (cn 150 (sl [g 17] .ret) .skip))] (g 15)))),g 18] .ret) [.tmp 4] fun cx => ?_
 unfold qS at H
 refine gA 3 12 12 ?_
 refine tS ?_
 refine rA 6 ?_
 refine sL 8204 12 ⟨151,0,[sB 13 (x0.Id != x1.Id),sA 3 3 11 0,sA 2 2 11 0],[(3,(CV.frzRow (zA.row x1))),(2,(CV.frzRow (zA.row x0)))]⟩ ?_
 cases h1 : (x0.Id != x1.Id)
 ·have H := zI h1 H
  refine lA 7 ?_
  refine sL 1048588 12 ⟨151,0,[sB 20 (!(x0.Name.toList == x1.Name.toList)),sA 3 3 11 0,sA 2 2 11 0],[(3,(CV.frzRow (zA.row x1))),(2,(CV.frzRow (zA.row x0)))]⟩ ?_
  cases h2 : (!(x0.Name.toList == x1.Name.toList))
  ·have H := zI h2 H
   refine lA 7 ?_
   refine sL 134217740 12 ⟨151,0,[sB 27 (x0.Tk != x1.Tk),sA 3 3 11 0,sA 2 2 11 0],[(3,(CV.frzRow (zA.row x1))),(2,(CV.frzRow (zA.row x0)))]⟩ ?_
   cases h3 : (x0.Tk != x1.Tk)
   ·have H := zI h3 H
    refine lA 7 ?_
    refine sL 17179869196 12 ⟨151,0,[sB 34 (x0.Pa != x1.Pa),sA 3 3 11 0,sA 2 2 11 0],[(3,(CV.frzRow (zA.row x1))),(2,(CV.frzRow (zA.row x0)))]⟩ ?_
    cases h4 : (x0.Pa != x1.Pa)
    ·have H := zI h4 H
     refine lA 7 ?_
     refine sL 2199023255564 12 ⟨151,0,[sB 41 (x0.Wo != x1.Wo),sA 3 3 11 0,sA 2 2 11 0],[(3,(CV.frzRow (zA.row x1))),(2,(CV.frzRow (zA.row x0)))]⟩ ?_
     cases h5 : (x0.Wo != x1.Wo)
     ·have H := zI h5 H
      refine lA 7 ?_
      refine sL 281474976710668 12 ⟨151,0,[sB 48 (x0.Dr != x1.Dr),sA 3 3 11 0,sA 2 2 11 0],[(3,(CV.frzRow (zA.row x1))),(2,(CV.frzRow (zA.row x0)))]⟩ ?_
      cases h6 : (x0.Dr != x1.Dr)
      ·have H := zI h6 H
       refine lA 7 ?_
       refine sL 0x8000000000000c 12 ⟨151,0,[sB 55 (x0.Ve != x1.Ve),sA 3 3 11 0,sA 2 2 11 0],[(3,(CV.frzRow (zA.row x1))),(2,(CV.frzRow (zA.row x0)))]⟩ ?_
       cases h7 : (x0.Ve != x1.Ve)
       ·have H := zI h7 H
        refine lA 2 ?_
        refine kF x0.Ps Pt.row ?_
        refine lA 2 ?_
        refine kF x1.Ps Pt.row ?_
        refine lA 3 ?_
        refine sL 0x1000000000000000c 12 ⟨151,0,[sB 64 ((x0.Ps.length : Int) != (x1.Ps.length : Int)),sA 3 3 11 0,sA 2 2 11 0],[(3,(CV.frzRow (zA.row x1))),(2,(CV.frzRow (zA.row x0)))]⟩ ?_
        cases h8 : ((x0.Ps.length : Int) != (x1.Ps.length : Int))
        ·have H := zI h8 H
         refine lA 2 ?_
         refine kF x0.F zB.row ?_
         refine lA 2 ?_
         refine kF x1.F zB.row ?_
         refine lA 3 ?_
         refine sL 0x200000000000000000c 12 ⟨151,0,[sB 73 ((x0.F.length : Int) != (x1.F.length : Int)),sA 3 3 11 0,sA 2 2 11 0],[(3,(CV.frzRow (zA.row x1))),(2,(CV.frzRow (zA.row x0)))]⟩ ?_
         cases h9 : ((x0.F.length : Int) != (x1.F.length : Int))
         ·have H := zI h9 H
          refine lA 3 ?_
          refine kF x0.V.Rows zC.row ?_
          refine lA 3 ?_
          refine kF x1.V.Rows zC.row ?_
          refine lA 3 ?_
          refine sL 0x100000000000000000000c 12 ⟨151,0,[sB 84 ((x0.V.Rows.length : Int) != (x1.V.Rows.length : Int)),sA 3 3 11 0,sA 2 2 11 0],[(3,(CV.frzRow (zA.row x1))),(2,(CV.frzRow (zA.row x0)))]⟩ ?_
          cases h10 : ((x0.V.Rows.length : Int) != (x1.V.Rows.length : Int))
          ·have H := zI h10 H
           refine lA 6 ?_
           obtain ⟨r1,er1,H⟩ := bs H
           refine vA [.rd,.rd] (zG0 n x0.V.Pv x1.V.Pv r1 er1) ?_
           refine uA 2 0x20000000000000000000000c 12 ?_
           obtain ⟨h11,H⟩ | ⟨h11,H⟩ := bC H
           ·refine nA h11 ?_
            refine tK ?_
            refine tS ?_
            refine gA 1 44 12 ?_
            obtain ⟨o11,eo11,Ho11⟩ := bs H
            clear H
            refine Tr.mid (ι := Unit) (fun v => ⟨151,0,[sA 3 3 11 0,sA 2 2 11 0],[(3,(CV.frzRow (zA.row x1))),(2,(CV.frzRow (zA.row x0)))]⟩) (fun v => QD n x0 x1 = some r) ?_ ?_
            ·refine tB ?_
             refine Tr.loop (ι := Nat × (Int)) (fun v => ⟨151,0,[sI 5 v.2,sA 3 3 11 0,sA 2 2 11 0],[(3,(CV.frzRow (zA.row x1))),(2,(CV.frzRow (zA.row x0)))]⟩) (fun v => qL n v.1 x0 x1 v.2 = some o11) (fun v => v.1) (n,0) eo11 (St.sub_of [5,3,2] [3,2] kr) ?_
             rintro ⟨mo11,y2⟩ H
             have H : qL n mo11 x0 x1 y2 = some o11 := H
             obtain _ | mo11 := mo11
             ·exact nN H
             rw [qL] at H
             refine tS ?_
             refine rA 3 ?_
             refine kF x0.Ps Pt.row ?_
             refine uA 1 0x400000000000000000000002c 12 ?_
             obtain ⟨h16,H⟩ | ⟨h16,H⟩ := bC H
             ·refine nA h16 ?_
              refine Tr.exit ?_
              refine aJ ?_
              obtain rfl := si H
              have H := Ho11
              dsimp only at H
              exact jA () H [3,2] [3,2]
             refine tA h16 ?_
             refine tK ?_
             refine tS ?_
             refine tB ?_
             obtain ⟨v12,ev12,H⟩ := bs H
             obtain ⟨v13,ev13,H⟩ := bs H
             refine Tr.draws mixed 11 kr ⟨151,0,[sB 111 (!((v12.Up == v13.Up) && ((v12.Co == v13.Co) && ((v12.Has == v13.Has) && (((v12.Hd.Root == v13.Hd.Root) && ((v12.Hd.Co == v13.Hd.Co) && ((v12.Hd.Hops == v13.Hd.Hops) && ((v12.Hd.Bridge == v13.Hd.Bridge) && ((v12.Hd.Port == v13.Hd.Port) && true))))) && true))))),sI 5 y2,sA 3 3 11 0,sA 2 2 11 0],[(3,(CV.frzRow (zA.row x1))),(2,(CV.frzRow (zA.row x0)))]⟩ (fun cx => ?_) ?_
             ·refine aA [(0,[]),(1,[10]),(2,[])] 8 [⟨[10],24,101,102⟩] fun cx => ?_
              refine aI tOk 3 24 0 102 103 104 none ⟨(.box 2),[(0,0)],2,false,8,(CV.frzEs (x0.Ps.map Pt.row))⟩ y2 (Pt.row v12) _ kr kr kr kr kr kr rfl (ZF ev12) rfl (fun cx => ?_)
              refine aA [(4,[]),(5,[]),(6,[10]),(7,[])] 3 [⟨[10],24,106,107⟩,⟨[10],24,101,102⟩] fun cx => ?_
              refine aI tOk 8 24 0 107 108 109 none ⟨(.box 3),[(0,0)],2,false,8,(CV.frzEs (x1.Ps.map Pt.row))⟩ y2 (Pt.row v13) _ kr kr kr kr kr kr rfl (ZF ev13) rfl (fun cx => ?_)
              refine aA [(9,[])] 1 [⟨[10],24,106,107⟩,⟨[10],24,101,102⟩] fun cx => ?_
              refine bA 10 ?_
              refine LAt.eqSG true (t := 100) (ty := 100) (ty' := 4) (x := (.tmp 105)) (y := (.tmp 110)) (d := 111) (g := none) ((v12.Up == v13.Up) && ((v12.Co == v13.Co) && ((v12.Has == v13.Has) && (((v12.Hd.Root == v13.Hd.Root) && ((v12.Hd.Co == v13.Hd.Co) && ((v12.Hd.Hops == v13.Hd.Hops) && ((v12.Hd.Bridge == v13.Hd.Bridge) && ((v12.Hd.Port == v13.Hd.Port) && true))))) && true)))) _ kr kr kr kr rfl ?_
              refine fA ?_
              exact eE [111,5,3,2] [3,2]
             refine sT ⟨151,0,[sB 111 (!((v12.Up == v13.Up) && ((v12.Co == v13.Co) && ((v12.Has == v13.Has) && (((v12.Hd.Root == v13.Hd.Root) && ((v12.Hd.Co == v13.Hd.Co) && ((v12.Hd.Hops == v13.Hd.Hops) && ((v12.Hd.Bridge == v13.Hd.Bridge) && ((v12.Hd.Port == v13.Hd.Port) && true))))) && true))))),sI 5 y2,sA 3 3 11 0,sA 2 2 11 0],[(3,(CV.frzRow (zA.row x1))),(2,(CV.frzRow (zA.row x0)))]⟩ ?_
             cases h17 : (!((v12.Up == v13.Up) && ((v12.Co == v13.Co) && ((v12.Has == v13.Has) && (((v12.Hd.Root == v13.Hd.Root) && ((v12.Hd.Co == v13.Hd.Co) && ((v12.Hd.Hops == v13.Hd.Hops) && ((v12.Hd.Bridge == v13.Hd.Bridge) && ((v12.Hd.Port == v13.Hd.Port) && true))))) && true)))))
             ·have H := zI h17 H
              refine nB_ ?_
              refine tK ?_
              refine eA 3 44 12 ?_
              exact jB mo11 (IntKind.wrap .i64 (y2 + 1)) H [5,3,2] [3,2]
             have H := zJ h17 H
             refine tB_ ?_
             refine gA 1 16 0 ?_
             refine te ?_
             obtain rfl := si H
             have H := Ho11
             dsimp only at H
             exact fF H
            rintro _ H
            have H : (QD n x0 x1) = some r := H
            unfold QD at H
            refine tS ?_
            refine gA 1 76 12 ?_
            obtain ⟨o8,eo8,Ho8⟩ := bs H
            clear H
            refine Tr.mid (ι := Unit) (fun v => ⟨151,0,[sA 3 3 11 0,sA 2 2 11 0],[(3,(CV.frzRow (zA.row x1))),(2,(CV.frzRow (zA.row x0)))]⟩) (fun v => QE n x0 x1 = some r) ?_ ?_
            ·refine tB ?_
             refine Tr.loop (ι := Nat × (Int)) (fun v => ⟨151,0,[sI 6 v.2,sA 3 3 11 0,sA 2 2 11 0],[(3,(CV.frzRow (zA.row x1))),(2,(CV.frzRow (zA.row x0)))]⟩) (fun v => qK n v.1 x0 x1 v.2 = some o8) (fun v => v.1) (n,0) eo8 (St.sub_of [6,3,2] [3,2] kr) ?_
             rintro ⟨mo8,y3⟩ H
             have H : qK n mo8 x0 x1 y3 = some o8 := H
             obtain _ | mo8 := mo8
             ·exact nN H
             rw [qK] at H
             refine tS ?_
             refine rA 3 ?_
             refine kF x0.F zB.row ?_
             refine uA 1 0x10000000000000000000000000004c 12 ?_
             obtain ⟨h14,H⟩ | ⟨h14,H⟩ := bC H
             ·refine nA h14 ?_
              refine Tr.exit ?_
              refine aJ ?_
              obtain rfl := si H
              have H := Ho8
              dsimp only at H
              exact jA () H [3,2] [3,2]
             refine tA h14 ?_
             refine tK ?_
             refine tS ?_
             refine tB ?_
             obtain ⟨v9,ev9,H⟩ := bs H
             obtain ⟨v10,ev10,H⟩ := bs H
             refine Tr.draws mixed 11 kr ⟨151,0,[sB 129 (!((v9.Tag == v10.Tag) && ((v9.Mac == v10.Mac) && ((v9.Port == v10.Port) && ((v9.Age == v10.Age) && ((v9.Sc == v10.Sc) && true)))))),sI 6 y3,sA 3 3 11 0,sA 2 2 11 0],[(3,(CV.frzRow (zA.row x1))),(2,(CV.frzRow (zA.row x0)))]⟩ (fun cx => ?_) ?_
             ·refine aA [(0,[]),(1,[10]),(2,[])] 8 [⟨[10],25,119,120⟩] fun cx => ?_
              refine aI tOk 3 25 0 120 121 122 none ⟨(.box 2),[(0,0)],3,false,5,(CV.frzEs (x0.F.map zB.row))⟩ y3 (zB.row v9) _ kr kr kr kr kr kr rfl (ZF ev9) rfl (fun cx => ?_)
              refine aA [(4,[]),(5,[]),(6,[10]),(7,[])] 3 [⟨[10],25,124,125⟩,⟨[10],25,119,120⟩] fun cx => ?_
              refine aI tOk 8 25 0 125 126 127 none ⟨(.box 3),[(0,0)],3,false,5,(CV.frzEs (x1.F.map zB.row))⟩ y3 (zB.row v10) _ kr kr kr kr kr kr rfl (ZF ev10) rfl (fun cx => ?_)
              refine aA [(9,[])] 1 [⟨[10],25,124,125⟩,⟨[10],25,119,120⟩] fun cx => ?_
              refine bA 10 ?_
              refine LAt.eqSG true (t := 103) (ty := 103) (ty' := 4) (x := (.tmp 123)) (y := (.tmp 128)) (d := 129) (g := none) ((v9.Tag == v10.Tag) && ((v9.Mac == v10.Mac) && ((v9.Port == v10.Port) && ((v9.Age == v10.Age) && ((v9.Sc == v10.Sc) && true))))) _ kr kr kr kr rfl ?_
              refine fA ?_
              exact eE [129,6,3,2] [3,2]
             refine sT ⟨151,0,[sB 129 (!((v9.Tag == v10.Tag) && ((v9.Mac == v10.Mac) && ((v9.Port == v10.Port) && ((v9.Age == v10.Age) && ((v9.Sc == v10.Sc) && true)))))),sI 6 y3,sA 3 3 11 0,sA 2 2 11 0],[(3,(CV.frzRow (zA.row x1))),(2,(CV.frzRow (zA.row x0)))]⟩ ?_
             cases h15 : (!((v9.Tag == v10.Tag) && ((v9.Mac == v10.Mac) && ((v9.Port == v10.Port) && ((v9.Age == v10.Age) && ((v9.Sc == v10.Sc) && true))))))
             ·have H := zI h15 H
              refine nB_ ?_
              refine tK ?_
              refine eA 3 76 12 ?_
              exact jB mo8 (IntKind.wrap .i64 (y3 + 1)) H [6,3,2] [3,2]
             have H := zJ h15 H
             refine tB_ ?_
             refine gA 1 16 0 ?_
             refine te ?_
             obtain rfl := si H
             have H := Ho8
             dsimp only at H
             exact fF H
            rintro _ H
            have H : (QE n x0 x1) = some r := H
            unfold QE at H
            refine tS ?_
            refine gA 1 140 12 ?_
            obtain ⟨o5,eo5,Ho5⟩ := bs H
            clear H
            refine Tr.mid (ι := Unit) (fun v => ⟨151,0,[],[]⟩) (fun v => QF n = some r) ?_ ?_
            ·refine tB ?_
             refine Tr.loop (ι := Nat × (Int)) (fun v => ⟨151,0,[sI 7 v.2,sA 3 3 11 0,sA 2 2 11 0],[(3,(CV.frzRow (zA.row x1))),(2,(CV.frzRow (zA.row x0)))]⟩) (fun v => qJ n v.1 x0 x1 v.2 = some o5) (fun v => v.1) (n,0) eo5 (St.sub_of [7,3,2] [3,2] kr) ?_
             rintro ⟨mo5,y4⟩ H
             have H : qJ n mo5 x0 x1 y4 = some o5 := H
             obtain _ | mo5 := mo5
             ·exact nN H
             rw [qJ] at H
             refine tS ?_
             refine rA 4 ?_
             refine kF x0.V.Rows zC.row ?_
             refine uA 1 0x800000000000000000000000000000008c 12 ?_
             obtain ⟨h12,H⟩ | ⟨h12,H⟩ := bC H
             ·refine nA h12 ?_
              refine Tr.exit ?_
              refine aJ ?_
              obtain rfl := si H
              have H := Ho5
              dsimp only at H
              exact jA () H [] []
             refine tA h12 ?_
             refine tK ?_
             refine tS ?_
             refine tB ?_
             obtain ⟨v6,ev6,H⟩ := bs H
             obtain ⟨v7,ev7,H⟩ := bs H
             refine Tr.draws mixed 13 kr ⟨151,0,[sB 150 (!((v6.Id == v7.Id) && ((v6.Members == v7.Members) && ((v6.Bare == v7.Bare) && true)))),sI 7 y4,sA 3 3 11 0,sA 2 2 11 0],[(3,(CV.frzRow (zA.row x1))),(2,(CV.frzRow (zA.row x0)))]⟩ (fun cx => ?_) ?_
             ·refine mA zBX [(0,[]),(1,[]),(2,[12]),(3,[])] 9 [⟨[12],26,139,140⟩] fun cx => ?_
              refine iN zBX 4 zC.row ev6 fun cx => ?_
              refine mA zBX [(5,[]),(6,[]),(7,[]),(8,[12]),(9,[])] 3 [⟨[12],26,145,146⟩,⟨[12],26,139,140⟩] fun cx => ?_
              refine iN zBX 10 zC.row ev7 fun cx => ?_
              refine mA zBX [(11,[])] 1 [⟨[12],26,145,146⟩,⟨[12],26,139,140⟩] fun cx => ?_
              refine mC zBX 12 ?_
              refine LAt.eqSG true (t := 113) (ty := 113) (ty' := 4) (x := (.tmp 143)) (y := (.tmp 149)) (d := 150) (g := none) ((v6.Id == v7.Id) && ((v6.Members == v7.Members) && ((v6.Bare == v7.Bare) && true))) _ kr kr kr kr rfl ?_
              refine fA ?_
              exact mE zBX [150,7,3,2] [3,2]
             refine sT ⟨151,0,[sB 150 (!((v6.Id == v7.Id) && ((v6.Members == v7.Members) && ((v6.Bare == v7.Bare) && true)))),sI 7 y4,sA 3 3 11 0,sA 2 2 11 0],[(3,(CV.frzRow (zA.row x1))),(2,(CV.frzRow (zA.row x0)))]⟩ ?_
             cases h13 : (!((v6.Id == v7.Id) && ((v6.Members == v7.Members) && ((v6.Bare == v7.Bare) && true))))
             ·have H := zI h13 H
              refine nB_ ?_
              refine tK ?_
              refine eA 3 140 12 ?_
              exact jB mo5 (IntKind.wrap .i64 (y4 + 1)) H [7,3,2] [3,2]
             have H := zJ h13 H
             refine tB_ ?_
             refine gA 1 16 0 ?_
             refine te ?_
             obtain rfl := si H
             have H := Ho5
             dsimp only at H
             exact fF H
            rintro _ H
            have H : (QF n) = some r := H
            unfold QF at H
            refine gA 1 16 0 ?_
            exact te (fT H)
           refine tA h11 ?_
           refine gA 1 16 0 ?_
           exact te (fF H)
          have H := zJ h10 H
          refine uA 9 0x20000000000000000000000c 12 ?_
          refine tB_ ?_
          refine gA 1 16 0 ?_
          exact te (fF H)
         have H := zJ h9 H
         refine uA 20 0x20000000000000000000000c 12 ?_
         refine tB_ ?_
         refine gA 1 16 0 ?_
         exact te (fF H)
        have H := zJ h8 H
        refine uA 29 0x20000000000000000000000c 12 ?_
        refine tB_ ?_
        refine gA 1 16 0 ?_
        exact te (fF H)
       have H := zJ h7 H
       refine uA 38 0x20000000000000000000000c 12 ?_
       refine tB_ ?_
       refine gA 1 16 0 ?_
       exact te (fF H)
      have H := zJ h6 H
      refine uA 45 0x20000000000000000000000c 12 ?_
      refine tB_ ?_
      refine gA 1 16 0 ?_
      exact te (fF H)
     have H := zJ h5 H
     refine uA 52 0x20000000000000000000000c 12 ?_
     refine tB_ ?_
     refine gA 1 16 0 ?_
     exact te (fF H)
    have H := zJ h4 H
    refine uA 59 0x20000000000000000000000c 12 ?_
    refine tB_ ?_
    refine gA 1 16 0 ?_
    exact te (fF H)
   have H := zJ h3 H
   refine uA 66 0x20000000000000000000000c 12 ?_
   refine tB_ ?_
   refine gA 1 16 0 ?_
   exact te (fF H)
  have H := zJ h2 H
  refine uA 73 0x20000000000000000000000c 12 ?_
  refine tB_ ?_
  refine gA 1 16 0 ?_
  exact te (fF H)
 have H := zJ h1 H
 refine uA 80 0x20000000000000000000000c 12 ?_
 refine tB_ ?_
 refine gA 1 16 0 ?_
 exact te (fF H)
def Qt (n : Nat) (x0 : (List Int)) : Option (Bool) :=
  ((zBw n x0).bind fun r1 => (bif r1 then (some true) else ((QU n x0).bind fun r2 => ((QV n x0).bind fun r3 => ((YQ n x0).bind fun r4 => ((QC n x0).bind fun r5 => ((Zl n x0).bind fun r6 => ((Z5 n x0).bind fun r7 => ((Q5 n r7.1 r7.2).bind fun r8 => ((qn n r2.1 r2.2.1 r2.2.2).bind fun r9 => ((qo n r2.1 r2.2.1 r2.2.2).bind fun r10 => ((zM n r9 r10).bind fun r11 => (bif r11 then ((qv n r3.1 r3.2.1 r3.2.2).bind fun r12 => ((qw n r3.1 r3.2.1 r3.2.2).bind fun r13 => ((zM n r12 r13).bind fun r14 => (bif r14 then ((Z8 n r4).bind fun r15 => ((Zm n r4).bind fun r16 => ((zM n r15 r16).bind fun r17 => (bif r17 then ((z8 n r5).bind fun r18 => ((z4 n r5).bind fun r19 => (bif (r18 == r19) then ((zM n r6.1 r6.2).bind fun r20 => ((qS n r6.1 r6.2).bind fun r21 => (bif (r20 == r21) then ((z8 n r8).bind fun r22 => (bif (r22 == (decide ((r8.Ps.length : Int) > 0))) then ((qs n r7.1 r7.2).bind fun r23 => ((zM n r8 r23).bind fun r24 => (some r24))) else (some false))) else (some false)))) else (some false)))) else (some false))))) else (some false))))) else (some false))))))))))))))
def zJ1 : Tab := ⟨60,[0,0,0,7,0,0,0,120,136,256,512,512,512,7680,512,512,512,123392,139776,262656,786432,1048576,3145728,1048576,13631488,22020096,34603008,100663296,134217728,402653184,134217728,1744830464,2818572288,4429185024,10737418240,17179869184,17179869184,120259084288,17179869184,17179869184,979252543488,1254130450432,2216203124736,5497558138880,8796093022208,26388279066624,8796093022208,79164837199872,0x880000000000,290271069732864,606930418532352,0x4080000000000,0x8200000000000,4503599627370496,4503599627370496,4503599627370496,0xd0000000000000,85568392920039424,0x210000000000000,0x7ffffffffffffff],[0,0,0,7,0,0,0,112,136,256,512,512,512,7680,512,512,512,115200,139776,262656,524288,1048576,3145728,1048576,9437184,22020096,34603008,67108864,134217728,402653184,134217728,1207959552,2818572288,4429185024,8589934592,17179869184,17179869184,120259084288,17179869184,17179869184,841813590016,1254130450432,2216203124736,4398046511104,8796093022208,26388279066624,8796093022208,79164837199872,0x880000000000,290271069732864,606930418532352,0x4080000000000,0x8000000000000,4503599627370496,4503599627370496,4503599627370496,0xd0000000000000,85568392920039424,0x210000000000000,0x400000000000000],[0,0,0,7,0,0,0,127,255,511,1023,1023,1023,8191,1023,1023,1023,131071,262143,524287,1048575,2097151,4194303,2097151,16777215,33554431,67108863,134217727,268435455,536870911,268435455,2147483647,4294967295,8589934591,17179869183,34359738367,34359738367,137438953471,34359738367,34359738367,0xffffffffff,2199023255551,4398046511103,8796093022207,0xfffffffffff,35184372088831,0xfffffffffff,87960930222079,0xcfffffffffff,510173395288063,0x3ffffffffffff,0x7ffffffffffff,0xfffffffffffff,9007199254740991,9007199254740991,9007199254740991,0xdfffffffffffff,0x1ffffffffffffff,0x3ffffffffffffff,0x7ffffffffffffff]⟩
theorem zF : z9 (rg Tryz.f3 10) zJ1 = true := kr
theorem zCK (n : Nat) (r2 : zA × Int × Vec) (r9 : zA) (r10 : zA) (r11 : Bool) (r7 : Int × Int) (r3 : zA × Int × Bool) (r8 : zA) (r6 : zA × zA) (r5 : zA) (r4 : zA) (er9 : (qn n r2.1 r2.2.1 r2.2.2) = some r9) (er10 : (qo n r2.1 r2.2.1 r2.2.2) = some r10) (er11 : (zM n r9 r10) = some r11) (h2 : r11 = false) (cx : Cx) : AT Tryz.prog cx (rg Tryz.f3 10) [] 60 [] ⟨106,0,[sA 15 15 11 0,sI 14 r7.2,sI 13 r7.1,sA 12 12 11 0,sA 11 11 11 0,sA 10 10 11 0,sA 9 9 11 0,sB 8 r3.2.2,sI 7 r3.2.1,sA 6 6 11 0,sI 4 r2.2.1,sA 5 5 5 0,sA 3 3 11 0],[(15,(zA.row r8)),(12,(zA.row r6.2)),(11,(zA.row r6.1)),(10,(zA.row r5)),(9,(zA.row r4)),(6,(zA.row r3.1)),(5,(Vec.row r2.2.2)),(3,(zA.row r2.1))]⟩ (fun s => s = ⟨106,0,[sB 2 false],[]⟩) := by
 refine mA zF [(0,[3,7,8]),(1,[]),(2,[3,7,8]),(4,[7,8]),(5,[]),(6,[7,8])] 54 [⟨[7,8],33,5,53⟩,⟨[7,8],31,3,51⟩,⟨[3,7,8],33,5,49⟩,⟨[3,7,8],31,3,47⟩] fun cx => ?_
 refine mC zF 3 ?_
 refine vB [.rd,.rd,.rd] [.box 3] (Qn n r2.1 r2.2.1 r2.2.2 r9 er9) (.inr (zH (zA.row_mine _) zO)) ?_
 refine fA ?_
 refine mC zF 7 ?_
 refine vB [.rd,.rd,.rd] [.box 3] (Qq n r2.1 r2.2.1 r2.2.2 r10 er10) (.inr (zH (zA.row_mine _) zO)) ?_
 refine fA ?_
 refine mC zF 8 ?_
 refine vA [.rd,.rd] (zd n r9 r10 r11 er11) ?_
 refine fA ?_
 refine mA zF [(9,[])] 50 [⟨[7,8],33,5,53⟩,⟨[7,8],31,3,51⟩,⟨[3,7,8],33,5,49⟩,⟨[3,7,8],31,3,47⟩] fun cx => ?_
 refine sA_ 84020280548196328 40552 ⟨106,0,[sB 56 r11,sV 53 (Vec.row r2.2.2),sR 51 3 11 0 11 true,sV 49 (Vec.row r2.2.2),sR 47 3 11 0 11 true,sA 15 15 11 0,sI 14 r7.2,sI 13 r7.1,sA 12 12 11 0,sA 11 11 11 0,sA 10 10 11 0,sA 9 9 11 0,sB 8 r3.2.2,sI 7 r3.2.1,sA 6 6 11 0,sA 5 5 5 0,sA 3 3 11 0],[(15,(zA.row r8)),(12,(zA.row r6.2)),(11,(zA.row r6.1)),(10,(zA.row r5)),(9,(zA.row r4)),(6,(zA.row r3.1)),(5,(Vec.row r2.2.2)),(3,(zA.row r2.1))]⟩ ?_
 rw [h2]
 refine mA zF [(10,[]),(11,[]),(12,[]),(13,[]),(14,[]),(15,[]),(16,[]),(17,[]),(18,[]),(19,[]),(20,[]),(21,[]),(22,[]),(23,[]),(24,[]),(25,[]),(26,[]),(27,[]),(28,[]),(29,[]),(30,[]),(31,[]),(32,[]),(33,[]),(34,[]),(35,[]),(36,[]),(37,[]),(38,[]),(39,[]),(40,[]),(41,[]),(42,[]),(43,[]),(44,[]),(45,[]),(46,[]),(47,[]),(48,[]),(49,[]),(50,[]),(51,[]),(52,[]),(53,[]),(54,[]),(55,[]),(56,[]),(57,[]),(58,[]),(59,[])] 0 [⟨[7,8],33,5,53⟩,⟨[7,8],31,3,51⟩,⟨[3,7,8],33,5,49⟩,⟨[3,7,8],31,3,47⟩] fun cx => ?_
 exact mE zF [2] []
theorem zCL (n : Nat) (r2 : zA × Int × Vec) (r9 : zA) (r10 : zA) (r11 : Bool) (r7 : Int × Int) (r3 : zA × Int × Bool) (r8 : zA) (r6 : zA × zA) (r5 : zA) (r4 : zA) (r12 : zA) (r13 : zA) (r14 : Bool) (er9 : (qn n r2.1 r2.2.1 r2.2.2) = some r9) (er10 : (qo n r2.1 r2.2.1 r2.2.2) = some r10) (er11 : (zM n r9 r10) = some r11) (h2 : r11 = true) (er12 : (qv n r3.1 r3.2.1 r3.2.2) = some r12) (er13 : (qw n r3.1 r3.2.1 r3.2.2) = some r13) (er14 : (zM n r12 r13) = some r14) (h3 : r14 = false) (cx : Cx) : AT Tryz.prog cx (rg Tryz.f3 10) [] 60 [] ⟨106,0,[sA 15 15 11 0,sI 14 r7.2,sI 13 r7.1,sA 12 12 11 0,sA 11 11 11 0,sA 10 10 11 0,sA 9 9 11 0,sB 8 r3.2.2,sI 7 r3.2.1,sA 6 6 11 0,sI 4 r2.2.1,sA 5 5 5 0,sA 3 3 11 0],[(15,(zA.row r8)),(12,(zA.row r6.2)),(11,(zA.row r6.1)),(10,(zA.row r5)),(9,(zA.row r4)),(6,(zA.row r3.1)),(5,(Vec.row r2.2.2)),(3,(zA.row r2.1))]⟩ (fun s => s = ⟨106,0,[sB 2 false],[]⟩) := by
 refine mA zF [(0,[3,7,8,13,17,18]),(1,[]),(2,[3,7,8,13,17,18]),(4,[7,8,13,17,18]),(5,[]),(6,[7,8,13,17,18])] 54 [⟨[7,8,13,17,18],33,5,53⟩,⟨[7,8,13,17,18],31,3,51⟩,⟨[3,7,8,13,17,18],33,5,49⟩,⟨[3,7,8,13,17,18],31,3,47⟩] fun cx => ?_
 refine mC zF 3 ?_
 refine vB [.rd,.rd,.rd] [.box 3] (Qn n r2.1 r2.2.1 r2.2.2 r9 er9) (.inr (zH (zA.row_mine _) zO)) ?_
 refine fA ?_
 refine mC zF 7 ?_
 refine vB [.rd,.rd,.rd] [.box 3] (Qq n r2.1 r2.2.1 r2.2.2 r10 er10) (.inr (zH (zA.row_mine _) zO)) ?_
 refine fA ?_
 refine mC zF 8 ?_
 refine vA [.rd,.rd] (zd n r9 r10 r11 er11) ?_
 refine fA ?_
 refine mA zF [(9,[])] 50 [⟨[7,8,13,17,18],33,5,53⟩,⟨[7,8,13,17,18],31,3,51⟩,⟨[3,7,8,13,17,18],33,5,49⟩,⟨[3,7,8,13,17,18],31,3,47⟩] fun cx => ?_
 refine sA_ 84020280548196328 40552 ⟨106,0,[sB 56 r11,sV 53 (Vec.row r2.2.2),sR 51 3 11 0 11 true,sV 49 (Vec.row r2.2.2),sR 47 3 11 0 11 true,sA 15 15 11 0,sI 14 r7.2,sI 13 r7.1,sA 12 12 11 0,sA 11 11 11 0,sA 10 10 11 0,sA 9 9 11 0,sB 8 r3.2.2,sI 7 r3.2.1,sA 6 6 11 0,sA 5 5 5 0,sA 3 3 11 0],[(15,(zA.row r8)),(12,(zA.row r6.2)),(11,(zA.row r6.1)),(10,(zA.row r5)),(9,(zA.row r4)),(6,(zA.row r3.1)),(5,(Vec.row r2.2.2)),(3,(zA.row r2.1))]⟩ ?_
 rw [h2]
 refine mA zF [(10,[13,17,18]),(11,[]),(12,[]),(14,[17,18]),(15,[]),(16,[])] 44 [⟨[17,18],31,6,61⟩,⟨[13,17,18],31,6,57⟩,⟨[7,8,13,17,18],33,5,53⟩,⟨[7,8,13,17,18],31,3,51⟩,⟨[3,7,8,13,17,18],33,5,49⟩,⟨[3,7,8,13,17,18],31,3,47⟩] fun cx => ?_
 refine mC zF 13 ?_
 refine vB [.rd,.rd,.rd] [.box 6] (YL n r3.1 r3.2.1 r3.2.2 r12 er12) (.inr (zH (zA.row_mine _) zO)) ?_
 refine fA ?_
 refine mC zF 17 ?_
 refine vB [.rd,.rd,.rd] [.box 6] (YR n r3.1 r3.2.1 r3.2.2 r13 er13) (.inr (zH (zA.row_mine _) zO)) ?_
 refine fA ?_
 refine mC zF 18 ?_
 refine vA [.rd,.rd] (zd n r12 r13 r14 er14) ?_
 refine fA ?_
 refine mA zF [(19,[]),(20,[])] 39 [⟨[17,18],31,6,61⟩,⟨[13,17,18],31,6,57⟩,⟨[7,8,13,17,18],33,5,53⟩,⟨[7,8,13,17,18],31,3,51⟩,⟨[3,7,8,13,17,18],33,5,49⟩,⟨[3,7,8,13,17,18],31,3,47⟩] fun cx => ?_
 refine sA_ 0x8222a80000000fe68 40552 ⟨106,0,[sB 67 r14,sR 61 6 11 0 11 true,sR 57 6 11 0 11 true,sV 53 (Vec.row r2.2.2),sR 51 3 11 0 11 true,sV 49 (Vec.row r2.2.2),sR 47 3 11 0 11 true,sA 15 15 11 0,sI 14 r7.2,sI 13 r7.1,sA 12 12 11 0,sA 11 11 11 0,sA 10 10 11 0,sA 9 9 11 0,sA 6 6 11 0,sA 5 5 5 0,sA 3 3 11 0],[(15,(zA.row r8)),(12,(zA.row r6.2)),(11,(zA.row r6.1)),(10,(zA.row r5)),(9,(zA.row r4)),(6,(zA.row r3.1)),(5,(Vec.row r2.2.2)),(3,(zA.row r2.1))]⟩ ?_
 rw [h3]
 refine mA zF [(21,[]),(22,[]),(23,[]),(24,[]),(25,[]),(26,[]),(27,[]),(28,[]),(29,[]),(30,[]),(31,[]),(32,[]),(33,[]),(34,[]),(35,[]),(36,[]),(37,[]),(38,[]),(39,[]),(40,[]),(41,[]),(42,[]),(43,[]),(44,[]),(45,[]),(46,[]),(47,[]),(48,[]),(49,[]),(50,[]),(51,[]),(52,[]),(53,[]),(54,[]),(55,[]),(56,[]),(57,[]),(58,[]),(59,[])] 0 [⟨[17,18],31,6,61⟩,⟨[13,17,18],31,6,57⟩,⟨[7,8,13,17,18],33,5,53⟩,⟨[7,8,13,17,18],31,3,51⟩,⟨[3,7,8,13,17,18],33,5,49⟩,⟨[3,7,8,13,17,18],31,3,47⟩] fun cx => ?_
 exact mE zF [2] []
theorem zCM (n : Nat) (r2 : zA × Int × Vec) (r9 : zA) (r10 : zA) (r11 : Bool) (r7 : Int × Int) (r3 : zA × Int × Bool) (r8 : zA) (r6 : zA × zA) (r5 : zA) (r4 : zA) (r12 : zA) (r13 : zA) (r14 : Bool) (r15 : zA) (r16 : zA) (r17 : Bool) (er9 : (qn n r2.1 r2.2.1 r2.2.2) = some r9) (er10 : (qo n r2.1 r2.2.1 r2.2.2) = some r10) (er11 : (zM n r9 r10) = some r11) (h2 : r11 = true) (er12 : (qv n r3.1 r3.2.1 r3.2.2) = some r12) (er13 : (qw n r3.1 r3.2.1 r3.2.2) = some r13) (er14 : (zM n r12 r13) = some r14) (h3 : r14 = true) (er15 : (Z8 n r4) = some r15) (er16 : (Zm n r4) = some r16) (er17 : (zM n r15 r16) = some r17) (h4 : r17 = false) (cx : Cx) : AT Tryz.prog cx (rg Tryz.f3 10) [] 60 [] ⟨106,0,[sA 15 15 11 0,sI 14 r7.2,sI 13 r7.1,sA 12 12 11 0,sA 11 11 11 0,sA 10 10 11 0,sA 9 9 11 0,sB 8 r3.2.2,sI 7 r3.2.1,sA 6 6 11 0,sI 4 r2.2.1,sA 5 5 5 0,sA 3 3 11 0],[(15,(zA.row r8)),(12,(zA.row r6.2)),(11,(zA.row r6.1)),(10,(zA.row r5)),(9,(zA.row r4)),(6,(zA.row r3.1)),(5,(Vec.row r2.2.2)),(3,(zA.row r2.1))]⟩ (fun s => s = ⟨106,0,[sB 2 false],[]⟩) := by
 refine mA zF [(0,[3,7,8,13,17,18,22,24,25]),(1,[]),(2,[3,7,8,13,17,18,22,24,25]),(4,[7,8,13,17,18,22,24,25]),(5,[]),(6,[7,8,13,17,18,22,24,25])] 54 [⟨[7,8,13,17,18,22,24,25],33,5,53⟩,⟨[7,8,13,17,18,22,24,25],31,3,51⟩,⟨[3,7,8,13,17,18,22,24,25],33,5,49⟩,⟨[3,7,8,13,17,18,22,24,25],31,3,47⟩] fun cx => ?_
 refine mC zF 3 ?_
 refine vB [.rd,.rd,.rd] [.box 3] (Qn n r2.1 r2.2.1 r2.2.2 r9 er9) (.inr (zH (zA.row_mine _) zO)) ?_
 refine fA ?_
 refine mC zF 7 ?_
 refine vB [.rd,.rd,.rd] [.box 3] (Qq n r2.1 r2.2.1 r2.2.2 r10 er10) (.inr (zH (zA.row_mine _) zO)) ?_
 refine fA ?_
 refine mC zF 8 ?_
 refine vA [.rd,.rd] (zd n r9 r10 r11 er11) ?_
 refine fA ?_
 refine mA zF [(9,[])] 50 [⟨[7,8,13,17,18,22,24,25],33,5,53⟩,⟨[7,8,13,17,18,22,24,25],31,3,51⟩,⟨[3,7,8,13,17,18,22,24,25],33,5,49⟩,⟨[3,7,8,13,17,18,22,24,25],31,3,47⟩] fun cx => ?_
 refine sA_ 84020280548196328 40552 ⟨106,0,[sB 56 r11,sV 53 (Vec.row r2.2.2),sR 51 3 11 0 11 true,sV 49 (Vec.row r2.2.2),sR 47 3 11 0 11 true,sA 15 15 11 0,sI 14 r7.2,sI 13 r7.1,sA 12 12 11 0,sA 11 11 11 0,sA 10 10 11 0,sA 9 9 11 0,sB 8 r3.2.2,sI 7 r3.2.1,sA 6 6 11 0,sA 5 5 5 0,sA 3 3 11 0],[(15,(zA.row r8)),(12,(zA.row r6.2)),(11,(zA.row r6.1)),(10,(zA.row r5)),(9,(zA.row r4)),(6,(zA.row r3.1)),(5,(Vec.row r2.2.2)),(3,(zA.row r2.1))]⟩ ?_
 rw [h2]
 refine mA zF [(10,[13,17,18,22,24,25]),(11,[]),(12,[]),(14,[17,18,22,24,25]),(15,[]),(16,[])] 44 [⟨[17,18,22,24,25],31,6,61⟩,⟨[13,17,18,22,24,25],31,6,57⟩,⟨[7,8,13,17,18,22,24,25],33,5,53⟩,⟨[7,8,13,17,18,22,24,25],31,3,51⟩,⟨[3,7,8,13,17,18,22,24,25],33,5,49⟩,⟨[3,7,8,13,17,18,22,24,25],31,3,47⟩] fun cx => ?_
 refine mC zF 13 ?_
 refine vB [.rd,.rd,.rd] [.box 6] (YL n r3.1 r3.2.1 r3.2.2 r12 er12) (.inr (zH (zA.row_mine _) zO)) ?_
 refine fA ?_
 refine mC zF 17 ?_
 refine vB [.rd,.rd,.rd] [.box 6] (YR n r3.1 r3.2.1 r3.2.2 r13 er13) (.inr (zH (zA.row_mine _) zO)) ?_
 refine fA ?_
 refine mC zF 18 ?_
 refine vA [.rd,.rd] (zd n r12 r13 r14 er14) ?_
 refine fA ?_
 refine mA zF [(19,[]),(20,[])] 39 [⟨[17,18,22,24,25],31,6,61⟩,⟨[13,17,18,22,24,25],31,6,57⟩,⟨[7,8,13,17,18,22,24,25],33,5,53⟩,⟨[7,8,13,17,18,22,24,25],31,3,51⟩,⟨[3,7,8,13,17,18,22,24,25],33,5,49⟩,⟨[3,7,8,13,17,18,22,24,25],31,3,47⟩] fun cx => ?_
 refine sA_ 0x8222a80000000fe68 40552 ⟨106,0,[sB 67 r14,sR 61 6 11 0 11 true,sR 57 6 11 0 11 true,sV 53 (Vec.row r2.2.2),sR 51 3 11 0 11 true,sV 49 (Vec.row r2.2.2),sR 47 3 11 0 11 true,sA 15 15 11 0,sI 14 r7.2,sI 13 r7.1,sA 12 12 11 0,sA 11 11 11 0,sA 10 10 11 0,sA 9 9 11 0,sA 6 6 11 0,sA 5 5 5 0,sA 3 3 11 0],[(15,(zA.row r8)),(12,(zA.row r6.2)),(11,(zA.row r6.1)),(10,(zA.row r5)),(9,(zA.row r4)),(6,(zA.row r3.1)),(5,(Vec.row r2.2.2)),(3,(zA.row r2.1))]⟩ ?_
 rw [h3]
 refine mA zF [(21,[22,24,25]),(23,[24,25])] 37 [⟨[24,25],31,9,70⟩,⟨[22,24,25],31,9,68⟩,⟨[17,18,22,24,25],31,6,61⟩,⟨[13,17,18,22,24,25],31,6,57⟩,⟨[7,8,13,17,18,22,24,25],33,5,53⟩,⟨[7,8,13,17,18,22,24,25],31,3,51⟩,⟨[3,7,8,13,17,18,22,24,25],33,5,49⟩,⟨[3,7,8,13,17,18,22,24,25],31,3,47⟩] fun cx => ?_
 refine mC zF 22 ?_
 refine vB [.rd] [.box 9] (zAn n r4 r15 er15) (.inr (zH (zA.row_mine _) zO)) ?_
 refine fA ?_
 refine mC zF 24 ?_
 refine vB [.rd] [.box 9] (J8 n r4 r16 er16) (.inr (zH (zA.row_mine _) zO)) ?_
 refine fA ?_
 refine mC zF 25 ?_
 refine vA [.rd,.rd] (zd n r15 r16 r17 er17) ?_
 refine fA ?_
 refine mA zF [(26,[]),(27,[])] 32 [⟨[24,25],31,9,70⟩,⟨[22,24,25],31,9,68⟩,⟨[17,18,22,24,25],31,6,61⟩,⟨[13,17,18,22,24,25],31,6,57⟩,⟨[7,8,13,17,18,22,24,25],33,5,53⟩,⟨[7,8,13,17,18,22,24,25],31,3,51⟩,⟨[3,7,8,13,17,18,22,24,25],33,5,49⟩,⟨[3,7,8,13,17,18,22,24,25],31,3,47⟩] fun cx => ?_
 refine sA_ 0x450222a80000000fe68 40552 ⟨106,0,[sB 74 r17,sR 70 9 11 0 11 true,sR 68 9 11 0 11 true,sR 61 6 11 0 11 true,sR 57 6 11 0 11 true,sV 53 (Vec.row r2.2.2),sR 51 3 11 0 11 true,sV 49 (Vec.row r2.2.2),sR 47 3 11 0 11 true,sA 15 15 11 0,sI 14 r7.2,sI 13 r7.1,sA 12 12 11 0,sA 11 11 11 0,sA 10 10 11 0,sA 9 9 11 0,sA 6 6 11 0,sA 5 5 5 0,sA 3 3 11 0],[(15,(zA.row r8)),(12,(zA.row r6.2)),(11,(zA.row r6.1)),(10,(zA.row r5)),(9,(zA.row r4)),(6,(zA.row r3.1)),(5,(Vec.row r2.2.2)),(3,(zA.row r2.1))]⟩ ?_
 rw [h4]
 refine mA zF [(28,[]),(29,[]),(30,[]),(31,[]),(32,[]),(33,[]),(34,[]),(35,[]),(36,[]),(37,[]),(38,[]),(39,[]),(40,[]),(41,[]),(42,[]),(43,[]),(44,[]),(45,[]),(46,[]),(47,[]),(48,[]),(49,[]),(50,[]),(51,[]),(52,[]),(53,[]),(54,[]),(55,[]),(56,[]),(57,[]),(58,[]),(59,[])] 0 [⟨[24,25],31,9,70⟩,⟨[22,24,25],31,9,68⟩,⟨[17,18,22,24,25],31,6,61⟩,⟨[13,17,18,22,24,25],31,6,57⟩,⟨[7,8,13,17,18,22,24,25],33,5,53⟩,⟨[7,8,13,17,18,22,24,25],31,3,51⟩,⟨[3,7,8,13,17,18,22,24,25],33,5,49⟩,⟨[3,7,8,13,17,18,22,24,25],31,3,47⟩] fun cx => ?_
 exact mE zF [2] []
theorem zCN (n : Nat) (r2 : zA × Int × Vec) (r9 : zA) (r10 : zA) (r11 : Bool) (r7 : Int × Int) (r3 : zA × Int × Bool) (r8 : zA) (r6 : zA × zA) (r5 : zA) (r4 : zA) (r12 : zA) (r13 : zA) (r14 : Bool) (r15 : zA) (r16 : zA) (r17 : Bool) (r18 : Bool) (r19 : Bool) (er9 : (qn n r2.1 r2.2.1 r2.2.2) = some r9) (er10 : (qo n r2.1 r2.2.1 r2.2.2) = some r10) (er11 : (zM n r9 r10) = some r11) (h2 : r11 = true) (er12 : (qv n r3.1 r3.2.1 r3.2.2) = some r12) (er13 : (qw n r3.1 r3.2.1 r3.2.2) = some r13) (er14 : (zM n r12 r13) = some r14) (h3 : r14 = true) (er15 : (Z8 n r4) = some r15) (er16 : (Zm n r4) = some r16) (er17 : (zM n r15 r16) = some r17) (h4 : r17 = true) (er18 : (z8 n r5) = some r18) (er19 : (z4 n r5) = some r19) (h5 : (r18 == r19) = false) (cx : Cx) : AT Tryz.prog cx (rg Tryz.f3 10) [] 60 [] ⟨106,0,[sA 15 15 11 0,sI 14 r7.2,sI 13 r7.1,sA 12 12 11 0,sA 11 11 11 0,sA 10 10 11 0,sA 9 9 11 0,sB 8 r3.2.2,sI 7 r3.2.1,sA 6 6 11 0,sI 4 r2.2.1,sA 5 5 5 0,sA 3 3 11 0],[(15,(zA.row r8)),(12,(zA.row r6.2)),(11,(zA.row r6.1)),(10,(zA.row r5)),(9,(zA.row r4)),(6,(zA.row r3.1)),(5,(Vec.row r2.2.2)),(3,(zA.row r2.1))]⟩ (fun s => s = ⟨106,0,[sB 2 false],[]⟩) := by
 refine mA zF [(0,[3,7,8,13,17,18,22,24,25,29,31]),(1,[]),(2,[3,7,8,13,17,18,22,24,25,29,31]),(4,[7,8,13,17,18,22,24,25,29,31]),(5,[]),(6,[7,8,13,17,18,22,24,25,29,31])] 54 [⟨[7,8,13,17,18,22,24,25,29,31],33,5,53⟩,⟨[7,8,13,17,18,22,24,25,29,31],31,3,51⟩,⟨[3,7,8,13,17,18,22,24,25,29,31],33,5,49⟩,⟨[3,7,8,13,17,18,22,24,25,29,31],31,3,47⟩] fun cx => ?_
 refine mC zF 3 ?_
 refine vB [.rd,.rd,.rd] [.box 3] (Qn n r2.1 r2.2.1 r2.2.2 r9 er9) (.inr (zH (zA.row_mine _) zO)) ?_
 refine fA ?_
 refine mC zF 7 ?_
 refine vB [.rd,.rd,.rd] [.box 3] (Qq n r2.1 r2.2.1 r2.2.2 r10 er10) (.inr (zH (zA.row_mine _) zO)) ?_
 refine fA ?_
 refine mC zF 8 ?_
 refine vA [.rd,.rd] (zd n r9 r10 r11 er11) ?_
 refine fA ?_
 refine mA zF [(9,[])] 50 [⟨[7,8,13,17,18,22,24,25,29,31],33,5,53⟩,⟨[7,8,13,17,18,22,24,25,29,31],31,3,51⟩,⟨[3,7,8,13,17,18,22,24,25,29,31],33,5,49⟩,⟨[3,7,8,13,17,18,22,24,25,29,31],31,3,47⟩] fun cx => ?_
 refine sA_ 84020280548196328 40552 ⟨106,0,[sB 56 r11,sV 53 (Vec.row r2.2.2),sR 51 3 11 0 11 true,sV 49 (Vec.row r2.2.2),sR 47 3 11 0 11 true,sA 15 15 11 0,sI 14 r7.2,sI 13 r7.1,sA 12 12 11 0,sA 11 11 11 0,sA 10 10 11 0,sA 9 9 11 0,sB 8 r3.2.2,sI 7 r3.2.1,sA 6 6 11 0,sA 5 5 5 0,sA 3 3 11 0],[(15,(zA.row r8)),(12,(zA.row r6.2)),(11,(zA.row r6.1)),(10,(zA.row r5)),(9,(zA.row r4)),(6,(zA.row r3.1)),(5,(Vec.row r2.2.2)),(3,(zA.row r2.1))]⟩ ?_
 rw [h2]
 refine mA zF [(10,[13,17,18,22,24,25,29,31]),(11,[]),(12,[]),(14,[17,18,22,24,25,29,31]),(15,[]),(16,[])] 44 [⟨[17,18,22,24,25,29,31],31,6,61⟩,⟨[13,17,18,22,24,25,29,31],31,6,57⟩,⟨[7,8,13,17,18,22,24,25,29,31],33,5,53⟩,⟨[7,8,13,17,18,22,24,25,29,31],31,3,51⟩,⟨[3,7,8,13,17,18,22,24,25,29,31],33,5,49⟩,⟨[3,7,8,13,17,18,22,24,25,29,31],31,3,47⟩] fun cx => ?_
 refine mC zF 13 ?_
 refine vB [.rd,.rd,.rd] [.box 6] (YL n r3.1 r3.2.1 r3.2.2 r12 er12) (.inr (zH (zA.row_mine _) zO)) ?_
 refine fA ?_
 refine mC zF 17 ?_
 refine vB [.rd,.rd,.rd] [.box 6] (YR n r3.1 r3.2.1 r3.2.2 r13 er13) (.inr (zH (zA.row_mine _) zO)) ?_
 refine fA ?_
 refine mC zF 18 ?_
 refine vA [.rd,.rd] (zd n r12 r13 r14 er14) ?_
 refine fA ?_
 refine mA zF [(19,[]),(20,[])] 39 [⟨[17,18,22,24,25,29,31],31,6,61⟩,⟨[13,17,18,22,24,25,29,31],31,6,57⟩,⟨[7,8,13,17,18,22,24,25,29,31],33,5,53⟩,⟨[7,8,13,17,18,22,24,25,29,31],31,3,51⟩,⟨[3,7,8,13,17,18,22,24,25,29,31],33,5,49⟩,⟨[3,7,8,13,17,18,22,24,25,29,31],31,3,47⟩] fun cx => ?_
 refine sA_ 0x8222a80000000fe68 40552 ⟨106,0,[sB 67 r14,sR 61 6 11 0 11 true,sR 57 6 11 0 11 true,sV 53 (Vec.row r2.2.2),sR 51 3 11 0 11 true,sV 49 (Vec.row r2.2.2),sR 47 3 11 0 11 true,sA 15 15 11 0,sI 14 r7.2,sI 13 r7.1,sA 12 12 11 0,sA 11 11 11 0,sA 10 10 11 0,sA 9 9 11 0,sA 6 6 11 0,sA 5 5 5 0,sA 3 3 11 0],[(15,(zA.row r8)),(12,(zA.row r6.2)),(11,(zA.row r6.1)),(10,(zA.row r5)),(9,(zA.row r4)),(6,(zA.row r3.1)),(5,(Vec.row r2.2.2)),(3,(zA.row r2.1))]⟩ ?_
 rw [h3]
 refine mA zF [(21,[22,24,25,29,31]),(23,[24,25,29,31])] 37 [⟨[24,25,29,31],31,9,70⟩,⟨[22,24,25,29,31],31,9,68⟩,⟨[17,18,22,24,25,29,31],31,6,61⟩,⟨[13,17,18,22,24,25,29,31],31,6,57⟩,⟨[7,8,13,17,18,22,24,25,29,31],33,5,53⟩,⟨[7,8,13,17,18,22,24,25,29,31],31,3,51⟩,⟨[3,7,8,13,17,18,22,24,25,29,31],33,5,49⟩,⟨[3,7,8,13,17,18,22,24,25,29,31],31,3,47⟩] fun cx => ?_
 refine mC zF 22 ?_
 refine vB [.rd] [.box 9] (zAn n r4 r15 er15) (.inr (zH (zA.row_mine _) zO)) ?_
 refine fA ?_
 refine mC zF 24 ?_
 refine vB [.rd] [.box 9] (J8 n r4 r16 er16) (.inr (zH (zA.row_mine _) zO)) ?_
 refine fA ?_
 refine mC zF 25 ?_
 refine vA [.rd,.rd] (zd n r15 r16 r17 er17) ?_
 refine fA ?_
 refine mA zF [(26,[]),(27,[])] 32 [⟨[24,25,29,31],31,9,70⟩,⟨[22,24,25,29,31],31,9,68⟩,⟨[17,18,22,24,25,29,31],31,6,61⟩,⟨[13,17,18,22,24,25,29,31],31,6,57⟩,⟨[7,8,13,17,18,22,24,25,29,31],33,5,53⟩,⟨[7,8,13,17,18,22,24,25,29,31],31,3,51⟩,⟨[3,7,8,13,17,18,22,24,25,29,31],33,5,49⟩,⟨[3,7,8,13,17,18,22,24,25,29,31],31,3,47⟩] fun cx => ?_
 refine sA_ 0x450222a80000000fe68 40552 ⟨106,0,[sB 74 r17,sR 70 9 11 0 11 true,sR 68 9 11 0 11 true,sR 61 6 11 0 11 true,sR 57 6 11 0 11 true,sV 53 (Vec.row r2.2.2),sR 51 3 11 0 11 true,sV 49 (Vec.row r2.2.2),sR 47 3 11 0 11 true,sA 15 15 11 0,sI 14 r7.2,sI 13 r7.1,sA 12 12 11 0,sA 11 11 11 0,sA 10 10 11 0,sA 9 9 11 0,sA 6 6 11 0,sA 5 5 5 0,sA 3 3 11 0],[(15,(zA.row r8)),(12,(zA.row r6.2)),(11,(zA.row r6.1)),(10,(zA.row r5)),(9,(zA.row r4)),(6,(zA.row r3.1)),(5,(Vec.row r2.2.2)),(3,(zA.row r2.1))]⟩ ?_
 rw [h4]
 refine mA zF [(28,[29,31]),(30,[31])] 30 [⟨[31],31,10,77⟩,⟨[29,31],31,10,75⟩,⟨[24,25,29,31],31,9,70⟩,⟨[22,24,25,29,31],31,9,68⟩,⟨[17,18,22,24,25,29,31],31,6,61⟩,⟨[13,17,18,22,24,25,29,31],31,6,57⟩,⟨[7,8,13,17,18,22,24,25,29,31],33,5,53⟩,⟨[7,8,13,17,18,22,24,25,29,31],31,3,51⟩,⟨[3,7,8,13,17,18,22,24,25,29,31],33,5,49⟩,⟨[3,7,8,13,17,18,22,24,25,29,31],31,3,47⟩] fun cx => ?_
 refine mC zF 29 ?_
 refine vB [.rd] [.box 10] (Zt n r5 r18 er18) (.inr (zH (zL zR zh) zO)) ?_
 refine fA ?_
 refine mC zF 31 ?_
 refine vB [.rd] [.box 10] (Q0 n r5 r19 er19) (.inr (zH (zL zR zh) zO)) ?_
 refine fA ?_
 refine mA zF [(32,[]),(33,[]),(34,[])] 25 [⟨[31],31,10,77⟩,⟨[29,31],31,10,75⟩,⟨[24,25,29,31],31,9,70⟩,⟨[22,24,25,29,31],31,9,68⟩,⟨[17,18,22,24,25,29,31],31,6,61⟩,⟨[13,17,18,22,24,25,29,31],31,6,57⟩,⟨[7,8,13,17,18,22,24,25,29,31],33,5,53⟩,⟨[7,8,13,17,18,22,24,25,29,31],31,3,51⟩,⟨[3,7,8,13,17,18,22,24,25,29,31],33,5,49⟩,⟨[3,7,8,13,17,18,22,24,25,29,31],31,3,47⟩] fun cx => ?_
 refine sA_ 0x22850222a80000000fe68 40552 ⟨106,0,[sB 81 (r18 == r19),sR 77 10 11 0 11 true,sR 75 10 11 0 11 true,sR 70 9 11 0 11 true,sR 68 9 11 0 11 true,sR 61 6 11 0 11 true,sR 57 6 11 0 11 true,sV 53 (Vec.row r2.2.2),sR 51 3 11 0 11 true,sV 49 (Vec.row r2.2.2),sR 47 3 11 0 11 true,sA 15 15 11 0,sI 14 r7.2,sI 13 r7.1,sA 12 12 11 0,sA 11 11 11 0,sA 10 10 11 0,sA 9 9 11 0,sA 6 6 11 0,sA 5 5 5 0,sA 3 3 11 0],[(15,(zA.row r8)),(12,(zA.row r6.2)),(11,(zA.row r6.1)),(10,(zA.row r5)),(9,(zA.row r4)),(6,(zA.row r3.1)),(5,(Vec.row r2.2.2)),(3,(zA.row r2.1))]⟩ ?_
 rw [h5]
 refine mA zF [(35,[]),(36,[]),(37,[]),(38,[]),(39,[]),(40,[]),(41,[]),(42,[]),(43,[]),(44,[]),(45,[]),(46,[]),(47,[]),(48,[]),(49,[]),(50,[]),(51,[]),(52,[]),(53,[]),(54,[]),(55,[]),(56,[]),(57,[]),(58,[]),(59,[])] 0 [⟨[31],31,10,77⟩,⟨[29,31],31,10,75⟩,⟨[24,25,29,31],31,9,70⟩,⟨[22,24,25,29,31],31,9,68⟩,⟨[17,18,22,24,25,29,31],31,6,61⟩,⟨[13,17,18,22,24,25,29,31],31,6,57⟩,⟨[7,8,13,17,18,22,24,25,29,31],33,5,53⟩,⟨[7,8,13,17,18,22,24,25,29,31],31,3,51⟩,⟨[3,7,8,13,17,18,22,24,25,29,31],33,5,49⟩,⟨[3,7,8,13,17,18,22,24,25,29,31],31,3,47⟩] fun cx => ?_
 exact mE zF [2] []
theorem zCO (n : Nat) (r2 : zA × Int × Vec) (r9 : zA) (r10 : zA) (r11 : Bool) (r7 : Int × Int) (r3 : zA × Int × Bool) (r8 : zA) (r6 : zA × zA) (r5 : zA) (r4 : zA) (r12 : zA) (r13 : zA) (r14 : Bool) (r15 : zA) (r16 : zA) (r17 : Bool) (r18 : Bool) (r19 : Bool) (r20 : Bool) (r21 : Bool) (er9 : (qn n r2.1 r2.2.1 r2.2.2) = some r9) (er10 : (qo n r2.1 r2.2.1 r2.2.2) = some r10) (er11 : (zM n r9 r10) = some r11) (h2 : r11 = true) (er12 : (qv n r3.1 r3.2.1 r3.2.2) = some r12) (er13 : (qw n r3.1 r3.2.1 r3.2.2) = some r13) (er14 : (zM n r12 r13) = some r14) (h3 : r14 = true) (er15 : (Z8 n r4) = some r15) (er16 : (Zm n r4) = some r16) (er17 : (zM n r15 r16) = some r17) (h4 : r17 = true) (er18 : (z8 n r5) = some r18) (er19 : (z4 n r5) = some r19) (h5 : (r18 == r19) = true) (er20 : (zM n r6.1 r6.2) = some r20) (er21 : (qS n r6.1 r6.2) = some r21) (h6 : (r20 == r21) = false) (cx : Cx) : AT Tryz.prog cx (rg Tryz.f3 10) [] 60 [] ⟨106,0,[sA 15 15 11 0,sI 14 r7.2,sI 13 r7.1,sA 12 12 11 0,sA 11 11 11 0,sA 10 10 11 0,sA 9 9 11 0,sB 8 r3.2.2,sI 7 r3.2.1,sA 6 6 11 0,sI 4 r2.2.1,sA 5 5 5 0,sA 3 3 11 0],[(15,(zA.row r8)),(12,(zA.row r6.2)),(11,(zA.row r6.1)),(10,(zA.row r5)),(9,(zA.row r4)),(6,(zA.row r3.1)),(5,(Vec.row r2.2.2)),(3,(zA.row r2.1))]⟩ (fun s => s = ⟨106,0,[sB 2 false],[]⟩) := by
 refine mA zF [(0,[3,7,8,13,17,18,22,24,25,29,31,37,40]),(1,[]),(2,[3,7,8,13,17,18,22,24,25,29,31,37,40]),(4,[7,8,13,17,18,22,24,25,29,31,37,40]),(5,[]),(6,[7,8,13,17,18,22,24,25,29,31,37,40])] 54 [⟨[7,8,13,17,18,22,24,25,29,31,37,40],33,5,53⟩,⟨[7,8,13,17,18,22,24,25,29,31,37,40],31,3,51⟩,⟨[3,7,8,13,17,18,22,24,25,29,31,37,40],33,5,49⟩,⟨[3,7,8,13,17,18,22,24,25,29,31,37,40],31,3,47⟩] fun cx => ?_
 refine mC zF 3 ?_
 refine vB [.rd,.rd,.rd] [.box 3] (Qn n r2.1 r2.2.1 r2.2.2 r9 er9) (.inr (zH (zA.row_mine _) zO)) ?_
 refine fA ?_
 refine mC zF 7 ?_
 refine vB [.rd,.rd,.rd] [.box 3] (Qq n r2.1 r2.2.1 r2.2.2 r10 er10) (.inr (zH (zA.row_mine _) zO)) ?_
 refine fA ?_
 refine mC zF 8 ?_
 refine vA [.rd,.rd] (zd n r9 r10 r11 er11) ?_
 refine fA ?_
 refine mA zF [(9,[])] 50 [⟨[7,8,13,17,18,22,24,25,29,31,37,40],33,5,53⟩,⟨[7,8,13,17,18,22,24,25,29,31,37,40],31,3,51⟩,⟨[3,7,8,13,17,18,22,24,25,29,31,37,40],33,5,49⟩,⟨[3,7,8,13,17,18,22,24,25,29,31,37,40],31,3,47⟩] fun cx => ?_
 refine sA_ 84020280548196328 40552 ⟨106,0,[sB 56 r11,sV 53 (Vec.row r2.2.2),sR 51 3 11 0 11 true,sV 49 (Vec.row r2.2.2),sR 47 3 11 0 11 true,sA 15 15 11 0,sI 14 r7.2,sI 13 r7.1,sA 12 12 11 0,sA 11 11 11 0,sA 10 10 11 0,sA 9 9 11 0,sB 8 r3.2.2,sI 7 r3.2.1,sA 6 6 11 0,sA 5 5 5 0,sA 3 3 11 0],[(15,(zA.row r8)),(12,(zA.row r6.2)),(11,(zA.row r6.1)),(10,(zA.row r5)),(9,(zA.row r4)),(6,(zA.row r3.1)),(5,(Vec.row r2.2.2)),(3,(zA.row r2.1))]⟩ ?_
 rw [h2]
 refine mA zF [(10,[13,17,18,22,24,25,29,31,37,40]),(11,[]),(12,[]),(14,[17,18,22,24,25,29,31,37,40]),(15,[]),(16,[])] 44 [⟨[17,18,22,24,25,29,31,37,40],31,6,61⟩,⟨[13,17,18,22,24,25,29,31,37,40],31,6,57⟩,⟨[7,8,13,17,18,22,24,25,29,31,37,40],33,5,53⟩,⟨[7,8,13,17,18,22,24,25,29,31,37,40],31,3,51⟩,⟨[3,7,8,13,17,18,22,24,25,29,31,37,40],33,5,49⟩,⟨[3,7,8,13,17,18,22,24,25,29,31,37,40],31,3,47⟩] fun cx => ?_
 refine mC zF 13 ?_
 refine vB [.rd,.rd,.rd] [.box 6] (YL n r3.1 r3.2.1 r3.2.2 r12 er12) (.inr (zH (zA.row_mine _) zO)) ?_
 refine fA ?_
 refine mC zF 17 ?_
 refine vB [.rd,.rd,.rd] [.box 6] (YR n r3.1 r3.2.1 r3.2.2 r13 er13) (.inr (zH (zA.row_mine _) zO)) ?_
 refine fA ?_
 refine mC zF 18 ?_
 refine vA [.rd,.rd] (zd n r12 r13 r14 er14) ?_
 refine fA ?_
 refine mA zF [(19,[]),(20,[])] 39 [⟨[17,18,22,24,25,29,31,37,40],31,6,61⟩,⟨[13,17,18,22,24,25,29,31,37,40],31,6,57⟩,⟨[7,8,13,17,18,22,24,25,29,31,37,40],33,5,53⟩,⟨[7,8,13,17,18,22,24,25,29,31,37,40],31,3,51⟩,⟨[3,7,8,13,17,18,22,24,25,29,31,37,40],33,5,49⟩,⟨[3,7,8,13,17,18,22,24,25,29,31,37,40],31,3,47⟩] fun cx => ?_
 refine sA_ 0x8222a80000000fe68 40552 ⟨106,0,[sB 67 r14,sR 61 6 11 0 11 true,sR 57 6 11 0 11 true,sV 53 (Vec.row r2.2.2),sR 51 3 11 0 11 true,sV 49 (Vec.row r2.2.2),sR 47 3 11 0 11 true,sA 15 15 11 0,sI 14 r7.2,sI 13 r7.1,sA 12 12 11 0,sA 11 11 11 0,sA 10 10 11 0,sA 9 9 11 0,sA 6 6 11 0,sA 5 5 5 0,sA 3 3 11 0],[(15,(zA.row r8)),(12,(zA.row r6.2)),(11,(zA.row r6.1)),(10,(zA.row r5)),(9,(zA.row r4)),(6,(zA.row r3.1)),(5,(Vec.row r2.2.2)),(3,(zA.row r2.1))]⟩ ?_
 rw [h3]
 refine mA zF [(21,[22,24,25,29,31,37,40]),(23,[24,25,29,31,37,40])] 37 [⟨[24,25,29,31,37,40],31,9,70⟩,⟨[22,24,25,29,31,37,40],31,9,68⟩,⟨[17,18,22,24,25,29,31,37,40],31,6,61⟩,⟨[13,17,18,22,24,25,29,31,37,40],31,6,57⟩,⟨[7,8,13,17,18,22,24,25,29,31,37,40],33,5,53⟩,⟨[7,8,13,17,18,22,24,25,29,31,37,40],31,3,51⟩,⟨[3,7,8,13,17,18,22,24,25,29,31,37,40],33,5,49⟩,⟨[3,7,8,13,17,18,22,24,25,29,31,37,40],31,3,47⟩] fun cx => ?_
 refine mC zF 22 ?_
 refine vB [.rd] [.box 9] (zAn n r4 r15 er15) (.inr (zH (zA.row_mine _) zO)) ?_
 refine fA ?_
 refine mC zF 24 ?_
 refine vB [.rd] [.box 9] (J8 n r4 r16 er16) (.inr (zH (zA.row_mine _) zO)) ?_
 refine fA ?_
 refine mC zF 25 ?_
 refine vA [.rd,.rd] (zd n r15 r16 r17 er17) ?_
 refine fA ?_
 refine mA zF [(26,[]),(27,[])] 32 [⟨[24,25,29,31,37,40],31,9,70⟩,⟨[22,24,25,29,31,37,40],31,9,68⟩,⟨[17,18,22,24,25,29,31,37,40],31,6,61⟩,⟨[13,17,18,22,24,25,29,31,37,40],31,6,57⟩,⟨[7,8,13,17,18,22,24,25,29,31,37,40],33,5,53⟩,⟨[7,8,13,17,18,22,24,25,29,31,37,40],31,3,51⟩,⟨[3,7,8,13,17,18,22,24,25,29,31,37,40],33,5,49⟩,⟨[3,7,8,13,17,18,22,24,25,29,31,37,40],31,3,47⟩] fun cx => ?_
 refine sA_ 0x450222a80000000fe68 40552 ⟨106,0,[sB 74 r17,sR 70 9 11 0 11 true,sR 68 9 11 0 11 true,sR 61 6 11 0 11 true,sR 57 6 11 0 11 true,sV 53 (Vec.row r2.2.2),sR 51 3 11 0 11 true,sV 49 (Vec.row r2.2.2),sR 47 3 11 0 11 true,sA 15 15 11 0,sI 14 r7.2,sI 13 r7.1,sA 12 12 11 0,sA 11 11 11 0,sA 10 10 11 0,sA 9 9 11 0,sA 6 6 11 0,sA 5 5 5 0,sA 3 3 11 0],[(15,(zA.row r8)),(12,(zA.row r6.2)),(11,(zA.row r6.1)),(10,(zA.row r5)),(9,(zA.row r4)),(6,(zA.row r3.1)),(5,(Vec.row r2.2.2)),(3,(zA.row r2.1))]⟩ ?_
 rw [h4]
 refine mA zF [(28,[29,31,37,40]),(30,[31,37,40])] 30 [⟨[31,37,40],31,10,77⟩,⟨[29,31,37,40],31,10,75⟩,⟨[24,25,29,31,37,40],31,9,70⟩,⟨[22,24,25,29,31,37,40],31,9,68⟩,⟨[17,18,22,24,25,29,31,37,40],31,6,61⟩,⟨[13,17,18,22,24,25,29,31,37,40],31,6,57⟩,⟨[7,8,13,17,18,22,24,25,29,31,37,40],33,5,53⟩,⟨[7,8,13,17,18,22,24,25,29,31,37,40],31,3,51⟩,⟨[3,7,8,13,17,18,22,24,25,29,31,37,40],33,5,49⟩,⟨[3,7,8,13,17,18,22,24,25,29,31,37,40],31,3,47⟩] fun cx => ?_
 refine mC zF 29 ?_
 refine vB [.rd] [.box 10] (Zt n r5 r18 er18) (.inr (zH (zL zR zh) zO)) ?_
 refine fA ?_
 refine mC zF 31 ?_
 refine vB [.rd] [.box 10] (Q0 n r5 r19 er19) (.inr (zH (zL zR zh) zO)) ?_
 refine fA ?_
 refine mA zF [(32,[]),(33,[]),(34,[])] 25 [⟨[31,37,40],31,10,77⟩,⟨[29,31,37,40],31,10,75⟩,⟨[24,25,29,31,37,40],31,9,70⟩,⟨[22,24,25,29,31,37,40],31,9,68⟩,⟨[17,18,22,24,25,29,31,37,40],31,6,61⟩,⟨[13,17,18,22,24,25,29,31,37,40],31,6,57⟩,⟨[7,8,13,17,18,22,24,25,29,31,37,40],33,5,53⟩,⟨[7,8,13,17,18,22,24,25,29,31,37,40],31,3,51⟩,⟨[3,7,8,13,17,18,22,24,25,29,31,37,40],33,5,49⟩,⟨[3,7,8,13,17,18,22,24,25,29,31,37,40],31,3,47⟩] fun cx => ?_
 refine sA_ 0x22850222a80000000fe68 40552 ⟨106,0,[sB 81 (r18 == r19),sR 77 10 11 0 11 true,sR 75 10 11 0 11 true,sR 70 9 11 0 11 true,sR 68 9 11 0 11 true,sR 61 6 11 0 11 true,sR 57 6 11 0 11 true,sV 53 (Vec.row r2.2.2),sR 51 3 11 0 11 true,sV 49 (Vec.row r2.2.2),sR 47 3 11 0 11 true,sA 15 15 11 0,sI 14 r7.2,sI 13 r7.1,sA 12 12 11 0,sA 11 11 11 0,sA 10 10 11 0,sA 9 9 11 0,sA 6 6 11 0,sA 5 5 5 0,sA 3 3 11 0],[(15,(zA.row r8)),(12,(zA.row r6.2)),(11,(zA.row r6.1)),(10,(zA.row r5)),(9,(zA.row r4)),(6,(zA.row r3.1)),(5,(Vec.row r2.2.2)),(3,(zA.row r2.1))]⟩ ?_
 rw [h5]
 refine mA zF [(35,[37,40]),(36,[37,40]),(38,[40]),(39,[40])] 21 [⟨[40],31,12,86⟩,⟨[40],31,11,85⟩,⟨[37,40],31,12,83⟩,⟨[37,40],31,11,82⟩,⟨[31,37,40],31,10,77⟩,⟨[29,31,37,40],31,10,75⟩,⟨[24,25,29,31,37,40],31,9,70⟩,⟨[22,24,25,29,31,37,40],31,9,68⟩,⟨[17,18,22,24,25,29,31,37,40],31,6,61⟩,⟨[13,17,18,22,24,25,29,31,37,40],31,6,57⟩,⟨[7,8,13,17,18,22,24,25,29,31,37,40],33,5,53⟩,⟨[7,8,13,17,18,22,24,25,29,31,37,40],31,3,51⟩,⟨[3,7,8,13,17,18,22,24,25,29,31,37,40],33,5,49⟩,⟨[3,7,8,13,17,18,22,24,25,29,31,37,40],31,3,47⟩] fun cx => ?_
 refine mC zF 37 ?_
 refine vB [.rd,.rd] [.box 11,.box 12] (zd n r6.1 r6.2 r20 er20) (.inr (zH (zL zR zh) zO)) ?_
 refine fA ?_
 refine mC zF 40 ?_
 refine vB [.rd,.rd] [.box 11,.box 12] (zAL n r6.1 r6.2 r21 er21) (.inr (zH (zL zR zh) zO)) ?_
 refine fA ?_
 refine mA zF [(41,[]),(42,[]),(43,[])] 16 [⟨[40],31,12,86⟩,⟨[40],31,11,85⟩,⟨[37,40],31,12,83⟩,⟨[37,40],31,11,82⟩,⟨[31,37,40],31,10,77⟩,⟨[29,31,37,40],31,10,75⟩,⟨[24,25,29,31,37,40],31,9,70⟩,⟨[22,24,25,29,31,37,40],31,9,68⟩,⟨[17,18,22,24,25,29,31,37,40],31,6,61⟩,⟨[13,17,18,22,24,25,29,31,37,40],31,6,57⟩,⟨[7,8,13,17,18,22,24,25,29,31,37,40],33,5,53⟩,⟨[7,8,13,17,18,22,24,25,29,31,37,40],31,3,51⟩,⟨[3,7,8,13,17,18,22,24,25,29,31,37,40],33,5,49⟩,⟨[3,7,8,13,17,18,22,24,25,29,31,37,40],31,3,47⟩] fun cx => ?_
 refine sA_ 0x46c2850222a80000000fe68 40552 ⟨106,0,[sB 90 (r20 == r21),sR 86 12 11 0 11 true,sR 85 11 11 0 11 true,sR 83 12 11 0 11 true,sR 82 11 11 0 11 true,sR 77 10 11 0 11 true,sR 75 10 11 0 11 true,sR 70 9 11 0 11 true,sR 68 9 11 0 11 true,sR 61 6 11 0 11 true,sR 57 6 11 0 11 true,sV 53 (Vec.row r2.2.2),sR 51 3 11 0 11 true,sV 49 (Vec.row r2.2.2),sR 47 3 11 0 11 true,sA 15 15 11 0,sI 14 r7.2,sI 13 r7.1,sA 12 12 11 0,sA 11 11 11 0,sA 10 10 11 0,sA 9 9 11 0,sA 6 6 11 0,sA 5 5 5 0,sA 3 3 11 0],[(15,(zA.row r8)),(12,(zA.row r6.2)),(11,(zA.row r6.1)),(10,(zA.row r5)),(9,(zA.row r4)),(6,(zA.row r3.1)),(5,(Vec.row r2.2.2)),(3,(zA.row r2.1))]⟩ ?_
 rw [h6]
 refine mA zF [(44,[]),(45,[]),(46,[]),(47,[]),(48,[]),(49,[]),(50,[]),(51,[]),(52,[]),(53,[]),(54,[]),(55,[]),(56,[]),(57,[]),(58,[]),(59,[])] 0 [⟨[40],31,12,86⟩,⟨[40],31,11,85⟩,⟨[37,40],31,12,83⟩,⟨[37,40],31,11,82⟩,⟨[31,37,40],31,10,77⟩,⟨[29,31,37,40],31,10,75⟩,⟨[24,25,29,31,37,40],31,9,70⟩,⟨[22,24,25,29,31,37,40],31,9,68⟩,⟨[17,18,22,24,25,29,31,37,40],31,6,61⟩,⟨[13,17,18,22,24,25,29,31,37,40],31,6,57⟩,⟨[7,8,13,17,18,22,24,25,29,31,37,40],33,5,53⟩,⟨[7,8,13,17,18,22,24,25,29,31,37,40],31,3,51⟩,⟨[3,7,8,13,17,18,22,24,25,29,31,37,40],33,5,49⟩,⟨[3,7,8,13,17,18,22,24,25,29,31,37,40],31,3,47⟩] fun cx => ?_
 exact mE zF [2] []
theorem zCP (n : Nat) (r2 : zA × Int × Vec) (r9 : zA) (r10 : zA) (r11 : Bool) (r7 : Int × Int) (r3 : zA × Int × Bool) (r8 : zA) (r6 : zA × zA) (r5 : zA) (r4 : zA) (r12 : zA) (r13 : zA) (r14 : Bool) (r15 : zA) (r16 : zA) (r17 : Bool) (r18 : Bool) (r19 : Bool) (r20 : Bool) (r21 : Bool) (r22 : Bool) (er9 : (qn n r2.1 r2.2.1 r2.2.2) = some r9) (er10 : (qo n r2.1 r2.2.1 r2.2.2) = some r10) (er11 : (zM n r9 r10) = some r11) (h2 : r11 = true) (er12 : (qv n r3.1 r3.2.1 r3.2.2) = some r12) (er13 : (qw n r3.1 r3.2.1 r3.2.2) = some r13) (er14 : (zM n r12 r13) = some r14) (h3 : r14 = true) (er15 : (Z8 n r4) = some r15) (er16 : (Zm n r4) = some r16) (er17 : (zM n r15 r16) = some r17) (h4 : r17 = true) (er18 : (z8 n r5) = some r18) (er19 : (z4 n r5) = some r19) (h5 : (r18 == r19) = true) (er20 : (zM n r6.1 r6.2) = some r20) (er21 : (qS n r6.1 r6.2) = some r21) (h6 : (r20 == r21) = true) (er22 : (z8 n r8) = some r22) (h7 : (r22 == (decide ((r8.Ps.length : Int) > 0))) = false) (cx : Cx) : AT Tryz.prog cx (rg Tryz.f3 10) [] 60 [] ⟨106,0,[sA 15 15 11 0,sI 14 r7.2,sI 13 r7.1,sA 12 12 11 0,sA 11 11 11 0,sA 10 10 11 0,sA 9 9 11 0,sB 8 r3.2.2,sI 7 r3.2.1,sA 6 6 11 0,sI 4 r2.2.1,sA 5 5 5 0,sA 3 3 11 0],[(15,(zA.row r8)),(12,(zA.row r6.2)),(11,(zA.row r6.1)),(10,(zA.row r5)),(9,(zA.row r4)),(6,(zA.row r3.1)),(5,(Vec.row r2.2.2)),(3,(zA.row r2.1))]⟩ (fun s => s = ⟨106,0,[sB 2 false],[]⟩) := by
 refine mA zF [(0,[3,7,8,13,17,18,22,24,25,29,31,37,40,45]),(1,[]),(2,[3,7,8,13,17,18,22,24,25,29,31,37,40,45]),(4,[7,8,13,17,18,22,24,25,29,31,37,40,45]),(5,[]),(6,[7,8,13,17,18,22,24,25,29,31,37,40,45])] 54 [⟨[7,8,13,17,18,22,24,25,29,31,37,40,45],33,5,53⟩,⟨[7,8,13,17,18,22,24,25,29,31,37,40,45],31,3,51⟩,⟨[3,7,8,13,17,18,22,24,25,29,31,37,40,45],33,5,49⟩,⟨[3,7,8,13,17,18,22,24,25,29,31,37,40,45],31,3,47⟩] fun cx => ?_
 refine mC zF 3 ?_
 refine vB [.rd,.rd,.rd] [.box 3] (Qn n r2.1 r2.2.1 r2.2.2 r9 er9) (.inr (zH (zA.row_mine _) zO)) ?_
 refine fA ?_
 refine mC zF 7 ?_
 refine vB [.rd,.rd,.rd] [.box 3] (Qq n r2.1 r2.2.1 r2.2.2 r10 er10) (.inr (zH (zA.row_mine _) zO)) ?_
 refine fA ?_
 refine mC zF 8 ?_
 refine vA [.rd,.rd] (zd n r9 r10 r11 er11) ?_
 refine fA ?_
 refine mA zF [(9,[])] 50 [⟨[7,8,13,17,18,22,24,25,29,31,37,40,45],33,5,53⟩,⟨[7,8,13,17,18,22,24,25,29,31,37,40,45],31,3,51⟩,⟨[3,7,8,13,17,18,22,24,25,29,31,37,40,45],33,5,49⟩,⟨[3,7,8,13,17,18,22,24,25,29,31,37,40,45],31,3,47⟩] fun cx => ?_
 refine sA_ 84020280548196328 40552 ⟨106,0,[sB 56 r11,sV 53 (Vec.row r2.2.2),sR 51 3 11 0 11 true,sV 49 (Vec.row r2.2.2),sR 47 3 11 0 11 true,sA 15 15 11 0,sI 14 r7.2,sI 13 r7.1,sA 12 12 11 0,sA 11 11 11 0,sA 10 10 11 0,sA 9 9 11 0,sB 8 r3.2.2,sI 7 r3.2.1,sA 6 6 11 0,sA 5 5 5 0,sA 3 3 11 0],[(15,(zA.row r8)),(12,(zA.row r6.2)),(11,(zA.row r6.1)),(10,(zA.row r5)),(9,(zA.row r4)),(6,(zA.row r3.1)),(5,(Vec.row r2.2.2)),(3,(zA.row r2.1))]⟩ ?_
 rw [h2]
 refine mA zF [(10,[13,17,18,22,24,25,29,31,37,40,45]),(11,[]),(12,[]),(14,[17,18,22,24,25,29,31,37,40,45]),(15,[]),(16,[])] 44 [⟨[17,18,22,24,25,29,31,37,40,45],31,6,61⟩,⟨[13,17,18,22,24,25,29,31,37,40,45],31,6,57⟩,⟨[7,8,13,17,18,22,24,25,29,31,37,40,45],33,5,53⟩,⟨[7,8,13,17,18,22,24,25,29,31,37,40,45],31,3,51⟩,⟨[3,7,8,13,17,18,22,24,25,29,31,37,40,45],33,5,49⟩,⟨[3,7,8,13,17,18,22,24,25,29,31,37,40,45],31,3,47⟩] fun cx => ?_
 refine mC zF 13 ?_
 refine vB [.rd,.rd,.rd] [.box 6] (YL n r3.1 r3.2.1 r3.2.2 r12 er12) (.inr (zH (zA.row_mine _) zO)) ?_
 refine fA ?_
 refine mC zF 17 ?_
 refine vB [.rd,.rd,.rd] [.box 6] (YR n r3.1 r3.2.1 r3.2.2 r13 er13) (.inr (zH (zA.row_mine _) zO)) ?_
 refine fA ?_
 refine mC zF 18 ?_
 refine vA [.rd,.rd] (zd n r12 r13 r14 er14) ?_
 refine fA ?_
 refine mA zF [(19,[]),(20,[])] 39 [⟨[17,18,22,24,25,29,31,37,40,45],31,6,61⟩,⟨[13,17,18,22,24,25,29,31,37,40,45],31,6,57⟩,⟨[7,8,13,17,18,22,24,25,29,31,37,40,45],33,5,53⟩,⟨[7,8,13,17,18,22,24,25,29,31,37,40,45],31,3,51⟩,⟨[3,7,8,13,17,18,22,24,25,29,31,37,40,45],33,5,49⟩,⟨[3,7,8,13,17,18,22,24,25,29,31,37,40,45],31,3,47⟩] fun cx => ?_
 refine sA_ 0x8222a80000000fe68 40552 ⟨106,0,[sB 67 r14,sR 61 6 11 0 11 true,sR 57 6 11 0 11 true,sV 53 (Vec.row r2.2.2),sR 51 3 11 0 11 true,sV 49 (Vec.row r2.2.2),sR 47 3 11 0 11 true,sA 15 15 11 0,sI 14 r7.2,sI 13 r7.1,sA 12 12 11 0,sA 11 11 11 0,sA 10 10 11 0,sA 9 9 11 0,sA 6 6 11 0,sA 5 5 5 0,sA 3 3 11 0],[(15,(zA.row r8)),(12,(zA.row r6.2)),(11,(zA.row r6.1)),(10,(zA.row r5)),(9,(zA.row r4)),(6,(zA.row r3.1)),(5,(Vec.row r2.2.2)),(3,(zA.row r2.1))]⟩ ?_
 rw [h3]
 refine mA zF [(21,[22,24,25,29,31,37,40,45]),(23,[24,25,29,31,37,40,45])] 37 [⟨[24,25,29,31,37,40,45],31,9,70⟩,⟨[22,24,25,29,31,37,40,45],31,9,68⟩,⟨[17,18,22,24,25,29,31,37,40,45],31,6,61⟩,⟨[13,17,18,22,24,25,29,31,37,40,45],31,6,57⟩,⟨[7,8,13,17,18,22,24,25,29,31,37,40,45],33,5,53⟩,⟨[7,8,13,17,18,22,24,25,29,31,37,40,45],31,3,51⟩,⟨[3,7,8,13,17,18,22,24,25,29,31,37,40,45],33,5,49⟩,⟨[3,7,8,13,17,18,22,24,25,29,31,37,40,45],31,3,47⟩] fun cx => ?_
 refine mC zF 22 ?_
 refine vB [.rd] [.box 9] (zAn n r4 r15 er15) (.inr (zH (zA.row_mine _) zO)) ?_
 refine fA ?_
 refine mC zF 24 ?_
 refine vB [.rd] [.box 9] (J8 n r4 r16 er16) (.inr (zH (zA.row_mine _) zO)) ?_
 refine fA ?_
 refine mC zF 25 ?_
 refine vA [.rd,.rd] (zd n r15 r16 r17 er17) ?_
 refine fA ?_
 refine mA zF [(26,[]),(27,[])] 32 [⟨[24,25,29,31,37,40,45],31,9,70⟩,⟨[22,24,25,29,31,37,40,45],31,9,68⟩,⟨[17,18,22,24,25,29,31,37,40,45],31,6,61⟩,⟨[13,17,18,22,24,25,29,31,37,40,45],31,6,57⟩,⟨[7,8,13,17,18,22,24,25,29,31,37,40,45],33,5,53⟩,⟨[7,8,13,17,18,22,24,25,29,31,37,40,45],31,3,51⟩,⟨[3,7,8,13,17,18,22,24,25,29,31,37,40,45],33,5,49⟩,⟨[3,7,8,13,17,18,22,24,25,29,31,37,40,45],31,3,47⟩] fun cx => ?_
 refine sA_ 0x450222a80000000fe68 40552 ⟨106,0,[sB 74 r17,sR 70 9 11 0 11 true,sR 68 9 11 0 11 true,sR 61 6 11 0 11 true,sR 57 6 11 0 11 true,sV 53 (Vec.row r2.2.2),sR 51 3 11 0 11 true,sV 49 (Vec.row r2.2.2),sR 47 3 11 0 11 true,sA 15 15 11 0,sI 14 r7.2,sI 13 r7.1,sA 12 12 11 0,sA 11 11 11 0,sA 10 10 11 0,sA 9 9 11 0,sA 6 6 11 0,sA 5 5 5 0,sA 3 3 11 0],[(15,(zA.row r8)),(12,(zA.row r6.2)),(11,(zA.row r6.1)),(10,(zA.row r5)),(9,(zA.row r4)),(6,(zA.row r3.1)),(5,(Vec.row r2.2.2)),(3,(zA.row r2.1))]⟩ ?_
 rw [h4]
 refine mA zF [(28,[29,31,37,40,45]),(30,[31,37,40,45])] 30 [⟨[31,37,40,45],31,10,77⟩,⟨[29,31,37,40,45],31,10,75⟩,⟨[24,25,29,31,37,40,45],31,9,70⟩,⟨[22,24,25,29,31,37,40,45],31,9,68⟩,⟨[17,18,22,24,25,29,31,37,40,45],31,6,61⟩,⟨[13,17,18,22,24,25,29,31,37,40,45],31,6,57⟩,⟨[7,8,13,17,18,22,24,25,29,31,37,40,45],33,5,53⟩,⟨[7,8,13,17,18,22,24,25,29,31,37,40,45],31,3,51⟩,⟨[3,7,8,13,17,18,22,24,25,29,31,37,40,45],33,5,49⟩,⟨[3,7,8,13,17,18,22,24,25,29,31,37,40,45],31,3,47⟩] fun cx => ?_
 refine mC zF 29 ?_
 refine vB [.rd] [.box 10] (Zt n r5 r18 er18) (.inr (zH (zL zR zh) zO)) ?_
 refine fA ?_
 refine mC zF 31 ?_
 refine vB [.rd] [.box 10] (Q0 n r5 r19 er19) (.inr (zH (zL zR zh) zO)) ?_
 refine fA ?_
 refine mA zF [(32,[]),(33,[]),(34,[])] 25 [⟨[31,37,40,45],31,10,77⟩,⟨[29,31,37,40,45],31,10,75⟩,⟨[24,25,29,31,37,40,45],31,9,70⟩,⟨[22,24,25,29,31,37,40,45],31,9,68⟩,⟨[17,18,22,24,25,29,31,37,40,45],31,6,61⟩,⟨[13,17,18,22,24,25,29,31,37,40,45],31,6,57⟩,⟨[7,8,13,17,18,22,24,25,29,31,37,40,45],33,5,53⟩,⟨[7,8,13,17,18,22,24,25,29,31,37,40,45],31,3,51⟩,⟨[3,7,8,13,17,18,22,24,25,29,31,37,40,45],33,5,49⟩,⟨[3,7,8,13,17,18,22,24,25,29,31,37,40,45],31,3,47⟩] fun cx => ?_
 refine sA_ 0x22850222a80000000fe68 40552 ⟨106,0,[sB 81 (r18 == r19),sR 77 10 11 0 11 true,sR 75 10 11 0 11 true,sR 70 9 11 0 11 true,sR 68 9 11 0 11 true,sR 61 6 11 0 11 true,sR 57 6 11 0 11 true,sV 53 (Vec.row r2.2.2),sR 51 3 11 0 11 true,sV 49 (Vec.row r2.2.2),sR 47 3 11 0 11 true,sA 15 15 11 0,sI 14 r7.2,sI 13 r7.1,sA 12 12 11 0,sA 11 11 11 0,sA 10 10 11 0,sA 9 9 11 0,sA 6 6 11 0,sA 5 5 5 0,sA 3 3 11 0],[(15,(zA.row r8)),(12,(zA.row r6.2)),(11,(zA.row r6.1)),(10,(zA.row r5)),(9,(zA.row r4)),(6,(zA.row r3.1)),(5,(Vec.row r2.2.2)),(3,(zA.row r2.1))]⟩ ?_
 rw [h5]
 refine mA zF [(35,[37,40,45]),(36,[37,40,45]),(38,[40,45]),(39,[40,45])] 21 [⟨[40,45],31,12,86⟩,⟨[40,45],31,11,85⟩,⟨[37,40,45],31,12,83⟩,⟨[37,40,45],31,11,82⟩,⟨[31,37,40,45],31,10,77⟩,⟨[29,31,37,40,45],31,10,75⟩,⟨[24,25,29,31,37,40,45],31,9,70⟩,⟨[22,24,25,29,31,37,40,45],31,9,68⟩,⟨[17,18,22,24,25,29,31,37,40,45],31,6,61⟩,⟨[13,17,18,22,24,25,29,31,37,40,45],31,6,57⟩,⟨[7,8,13,17,18,22,24,25,29,31,37,40,45],33,5,53⟩,⟨[7,8,13,17,18,22,24,25,29,31,37,40,45],31,3,51⟩,⟨[3,7,8,13,17,18,22,24,25,29,31,37,40,45],33,5,49⟩,⟨[3,7,8,13,17,18,22,24,25,29,31,37,40,45],31,3,47⟩] fun cx => ?_
 refine mC zF 37 ?_
 refine vB [.rd,.rd] [.box 11,.box 12] (zd n r6.1 r6.2 r20 er20) (.inr (zH (zL zR zh) zO)) ?_
 refine fA ?_
 refine mC zF 40 ?_
 refine vB [.rd,.rd] [.box 11,.box 12] (zAL n r6.1 r6.2 r21 er21) (.inr (zH (zL zR zh) zO)) ?_
 refine fA ?_
 refine mA zF [(41,[]),(42,[]),(43,[])] 16 [⟨[40,45],31,12,86⟩,⟨[40,45],31,11,85⟩,⟨[37,40,45],31,12,83⟩,⟨[37,40,45],31,11,82⟩,⟨[31,37,40,45],31,10,77⟩,⟨[29,31,37,40,45],31,10,75⟩,⟨[24,25,29,31,37,40,45],31,9,70⟩,⟨[22,24,25,29,31,37,40,45],31,9,68⟩,⟨[17,18,22,24,25,29,31,37,40,45],31,6,61⟩,⟨[13,17,18,22,24,25,29,31,37,40,45],31,6,57⟩,⟨[7,8,13,17,18,22,24,25,29,31,37,40,45],33,5,53⟩,⟨[7,8,13,17,18,22,24,25,29,31,37,40,45],31,3,51⟩,⟨[3,7,8,13,17,18,22,24,25,29,31,37,40,45],33,5,49⟩,⟨[3,7,8,13,17,18,22,24,25,29,31,37,40,45],31,3,47⟩] fun cx => ?_
 refine sA_ 0x46c2850222a80000000fe68 40552 ⟨106,0,[sB 90 (r20 == r21),sR 86 12 11 0 11 true,sR 85 11 11 0 11 true,sR 83 12 11 0 11 true,sR 82 11 11 0 11 true,sR 77 10 11 0 11 true,sR 75 10 11 0 11 true,sR 70 9 11 0 11 true,sR 68 9 11 0 11 true,sR 61 6 11 0 11 true,sR 57 6 11 0 11 true,sV 53 (Vec.row r2.2.2),sR 51 3 11 0 11 true,sV 49 (Vec.row r2.2.2),sR 47 3 11 0 11 true,sA 15 15 11 0,sI 14 r7.2,sI 13 r7.1,sA 12 12 11 0,sA 11 11 11 0,sA 10 10 11 0,sA 9 9 11 0,sA 6 6 11 0,sA 5 5 5 0,sA 3 3 11 0],[(15,(zA.row r8)),(12,(zA.row r6.2)),(11,(zA.row r6.1)),(10,(zA.row r5)),(9,(zA.row r4)),(6,(zA.row r3.1)),(5,(Vec.row r2.2.2)),(3,(zA.row r2.1))]⟩ ?_
 rw [h6]
 refine mA zF [(44,[45]),(46,[]),(47,[])] 13 [⟨[],24,93,94⟩,⟨[45],31,15,91⟩,⟨[40,45],31,12,86⟩,⟨[40,45],31,11,85⟩,⟨[37,40,45],31,12,83⟩,⟨[37,40,45],31,11,82⟩,⟨[31,37,40,45],31,10,77⟩,⟨[29,31,37,40,45],31,10,75⟩,⟨[24,25,29,31,37,40,45],31,9,70⟩,⟨[22,24,25,29,31,37,40,45],31,9,68⟩,⟨[17,18,22,24,25,29,31,37,40,45],31,6,61⟩,⟨[13,17,18,22,24,25,29,31,37,40,45],31,6,57⟩,⟨[7,8,13,17,18,22,24,25,29,31,37,40,45],33,5,53⟩,⟨[7,8,13,17,18,22,24,25,29,31,37,40,45],31,3,51⟩,⟨[3,7,8,13,17,18,22,24,25,29,31,37,40,45],33,5,49⟩,⟨[3,7,8,13,17,18,22,24,25,29,31,37,40,45],31,3,47⟩] fun cx => ?_
 refine kON zF 48 r8.Ps Pt.row fun cx => ?_
 refine mA zF [(49,[])] 11 [⟨[],24,93,94⟩,⟨[45],31,15,91⟩,⟨[40,45],31,12,86⟩,⟨[40,45],31,11,85⟩,⟨[37,40,45],31,12,83⟩,⟨[37,40,45],31,11,82⟩,⟨[31,37,40,45],31,10,77⟩,⟨[29,31,37,40,45],31,10,75⟩,⟨[24,25,29,31,37,40,45],31,9,70⟩,⟨[22,24,25,29,31,37,40,45],31,9,68⟩,⟨[17,18,22,24,25,29,31,37,40,45],31,6,61⟩,⟨[13,17,18,22,24,25,29,31,37,40,45],31,6,57⟩,⟨[7,8,13,17,18,22,24,25,29,31,37,40,45],33,5,53⟩,⟨[7,8,13,17,18,22,24,25,29,31,37,40,45],31,3,51⟩,⟨[3,7,8,13,17,18,22,24,25,29,31,37,40,45],33,5,49⟩,⟨[3,7,8,13,17,18,22,24,25,29,31,37,40,45],31,3,47⟩] fun cx => ?_
 refine mC zF 45 ?_
 refine vB [.rd] [.box 15] (Zt n r8 r22 er22) (.inr (zH (zL zR zh) zO)) ?_
 refine fA ?_
 refine mA zF [(50,[]),(51,[]),(52,[])] 7 [⟨[],24,93,94⟩,⟨[45],31,15,91⟩,⟨[40,45],31,12,86⟩,⟨[40,45],31,11,85⟩,⟨[37,40,45],31,12,83⟩,⟨[37,40,45],31,11,82⟩,⟨[31,37,40,45],31,10,77⟩,⟨[29,31,37,40,45],31,10,75⟩,⟨[24,25,29,31,37,40,45],31,9,70⟩,⟨[22,24,25,29,31,37,40,45],31,9,68⟩,⟨[17,18,22,24,25,29,31,37,40,45],31,6,61⟩,⟨[13,17,18,22,24,25,29,31,37,40,45],31,6,57⟩,⟨[7,8,13,17,18,22,24,25,29,31,37,40,45],33,5,53⟩,⟨[7,8,13,17,18,22,24,25,29,31,37,40,45],31,3,51⟩,⟨[3,7,8,13,17,18,22,24,25,29,31,37,40,45],33,5,49⟩,⟨[3,7,8,13,17,18,22,24,25,29,31,37,40,45],31,3,47⟩] fun cx => ?_
 refine sA_ 0x8686c2850222a80000000fe68 40552 ⟨106,0,[sB 99 (r22 == (decide ((r8.Ps.length : Int) > 0))),sR 94 15 11 2 1 false,sA 93 15 11 2,sR 91 15 11 0 11 true,sR 86 12 11 0 11 true,sR 85 11 11 0 11 true,sR 83 12 11 0 11 true,sR 82 11 11 0 11 true,sR 77 10 11 0 11 true,sR 75 10 11 0 11 true,sR 70 9 11 0 11 true,sR 68 9 11 0 11 true,sR 61 6 11 0 11 true,sR 57 6 11 0 11 true,sV 53 (Vec.row r2.2.2),sR 51 3 11 0 11 true,sV 49 (Vec.row r2.2.2),sR 47 3 11 0 11 true,sA 15 15 11 0,sI 14 r7.2,sI 13 r7.1,sA 12 12 11 0,sA 11 11 11 0,sA 10 10 11 0,sA 9 9 11 0,sA 6 6 11 0,sA 5 5 5 0,sA 3 3 11 0],[(15,(zA.row r8)),(12,(zA.row r6.2)),(11,(zA.row r6.1)),(10,(zA.row r5)),(9,(zA.row r4)),(6,(zA.row r3.1)),(5,(Vec.row r2.2.2)),(3,(zA.row r2.1))]⟩ ?_
 rw [h7]
 refine mA zF [(53,[]),(54,[]),(55,[]),(56,[]),(57,[]),(58,[]),(59,[])] 0 [⟨[],24,93,94⟩,⟨[45],31,15,91⟩,⟨[40,45],31,12,86⟩,⟨[40,45],31,11,85⟩,⟨[37,40,45],31,12,83⟩,⟨[37,40,45],31,11,82⟩,⟨[31,37,40,45],31,10,77⟩,⟨[29,31,37,40,45],31,10,75⟩,⟨[24,25,29,31,37,40,45],31,9,70⟩,⟨[22,24,25,29,31,37,40,45],31,9,68⟩,⟨[17,18,22,24,25,29,31,37,40,45],31,6,61⟩,⟨[13,17,18,22,24,25,29,31,37,40,45],31,6,57⟩,⟨[7,8,13,17,18,22,24,25,29,31,37,40,45],33,5,53⟩,⟨[7,8,13,17,18,22,24,25,29,31,37,40,45],31,3,51⟩,⟨[3,7,8,13,17,18,22,24,25,29,31,37,40,45],33,5,49⟩,⟨[3,7,8,13,17,18,22,24,25,29,31,37,40,45],31,3,47⟩] fun cx => ?_
 exact mE zF [2] []
theorem zCQ (n : Nat) (r2 : zA × Int × Vec) (r9 : zA) (r10 : zA) (r11 : Bool) (r7 : Int × Int) (r3 : zA × Int × Bool) (r8 : zA) (r6 : zA × zA) (r5 : zA) (r4 : zA) (r12 : zA) (r13 : zA) (r14 : Bool) (r15 : zA) (r16 : zA) (r17 : Bool) (r18 : Bool) (r19 : Bool) (r20 : Bool) (r21 : Bool) (r22 : Bool) (r23 : zA) (r24 : Bool) (er9 : (qn n r2.1 r2.2.1 r2.2.2) = some r9) (er10 : (qo n r2.1 r2.2.1 r2.2.2) = some r10) (er11 : (zM n r9 r10) = some r11) (h2 : r11 = true) (er12 : (qv n r3.1 r3.2.1 r3.2.2) = some r12) (er13 : (qw n r3.1 r3.2.1 r3.2.2) = some r13) (er14 : (zM n r12 r13) = some r14) (h3 : r14 = true) (er15 : (Z8 n r4) = some r15) (er16 : (Zm n r4) = some r16) (er17 : (zM n r15 r16) = some r17) (h4 : r17 = true) (er18 : (z8 n r5) = some r18) (er19 : (z4 n r5) = some r19) (h5 : (r18 == r19) = true) (er20 : (zM n r6.1 r6.2) = some r20) (er21 : (qS n r6.1 r6.2) = some r21) (h6 : (r20 == r21) = true) (er22 : (z8 n r8) = some r22) (h7 : (r22 == (decide ((r8.Ps.length : Int) > 0))) = true) (er23 : (qs n r7.1 r7.2) = some r23) (er24 : (zM n r8 r23) = some r24) (cx : Cx) : AT Tryz.prog cx (rg Tryz.f3 10) [] 60 [] ⟨106,0,[sA 15 15 11 0,sI 14 r7.2,sI 13 r7.1,sA 12 12 11 0,sA 11 11 11 0,sA 10 10 11 0,sA 9 9 11 0,sB 8 r3.2.2,sI 7 r3.2.1,sA 6 6 11 0,sI 4 r2.2.1,sA 5 5 5 0,sA 3 3 11 0],[(15,(zA.row r8)),(12,(zA.row r6.2)),(11,(zA.row r6.1)),(10,(zA.row r5)),(9,(zA.row r4)),(6,(zA.row r3.1)),(5,(Vec.row r2.2.2)),(3,(zA.row r2.1))]⟩ (fun s => s = ⟨106,0,[sB 2 r24],[]⟩) := by
 refine mA zF [(0,[3,7,8,13,17,18,22,24,25,29,31,37,40,45,56,57]),(1,[]),(2,[3,7,8,13,17,18,22,24,25,29,31,37,40,45,56,57]),(4,[7,8,13,17,18,22,24,25,29,31,37,40,45,56,57]),(5,[]),(6,[7,8,13,17,18,22,24,25,29,31,37,40,45,56,57])] 54 [⟨[7,8,13,17,18,22,24,25,29,31,37,40,45,56,57],33,5,53⟩,⟨[7,8,13,17,18,22,24,25,29,31,37,40,45,56,57],31,3,51⟩,⟨[3,7,8,13,17,18,22,24,25,29,31,37,40,45,56,57],33,5,49⟩,⟨[3,7,8,13,17,18,22,24,25,29,31,37,40,45,56,57],31,3,47⟩] fun cx => ?_
 refine mC zF 3 ?_
 refine vB [.rd,.rd,.rd] [.box 3] (Qn n r2.1 r2.2.1 r2.2.2 r9 er9) (.inr (zH (zA.row_mine _) zO)) ?_
 refine fA ?_
 refine mC zF 7 ?_
 refine vB [.rd,.rd,.rd] [.box 3] (Qq n r2.1 r2.2.1 r2.2.2 r10 er10) (.inr (zH (zA.row_mine _) zO)) ?_
 refine fA ?_
 refine mC zF 8 ?_
 refine vA [.rd,.rd] (zd n r9 r10 r11 er11) ?_
 refine fA ?_
 refine mA zF [(9,[])] 50 [⟨[7,8,13,17,18,22,24,25,29,31,37,40,45,56,57],33,5,53⟩,⟨[7,8,13,17,18,22,24,25,29,31,37,40,45,56,57],31,3,51⟩,⟨[3,7,8,13,17,18,22,24,25,29,31,37,40,45,56,57],33,5,49⟩,⟨[3,7,8,13,17,18,22,24,25,29,31,37,40,45,56,57],31,3,47⟩] fun cx => ?_
 refine sA_ 84020280548196328 40552 ⟨106,0,[sB 56 r11,sV 53 (Vec.row r2.2.2),sR 51 3 11 0 11 true,sV 49 (Vec.row r2.2.2),sR 47 3 11 0 11 true,sA 15 15 11 0,sI 14 r7.2,sI 13 r7.1,sA 12 12 11 0,sA 11 11 11 0,sA 10 10 11 0,sA 9 9 11 0,sB 8 r3.2.2,sI 7 r3.2.1,sA 6 6 11 0,sA 5 5 5 0,sA 3 3 11 0],[(15,(zA.row r8)),(12,(zA.row r6.2)),(11,(zA.row r6.1)),(10,(zA.row r5)),(9,(zA.row r4)),(6,(zA.row r3.1)),(5,(Vec.row r2.2.2)),(3,(zA.row r2.1))]⟩ ?_
 rw [h2]
 refine mA zF [(10,[13,17,18,22,24,25,29,31,37,40,45,56,57]),(11,[]),(12,[]),(14,[17,18,22,24,25,29,31,37,40,45,56,57]),(15,[]),(16,[])] 44 [⟨[17,18,22,24,25,29,31,37,40,45,56,57],31,6,61⟩,⟨[13,17,18,22,24,25,29,31,37,40,45,56,57],31,6,57⟩,⟨[7,8,13,17,18,22,24,25,29,31,37,40,45,56,57],33,5,53⟩,⟨[7,8,13,17,18,22,24,25,29,31,37,40,45,56,57],31,3,51⟩,⟨[3,7,8,13,17,18,22,24,25,29,31,37,40,45,56,57],33,5,49⟩,⟨[3,7,8,13,17,18,22,24,25,29,31,37,40,45,56,57],31,3,47⟩] fun cx => ?_
 refine mC zF 13 ?_
 refine vB [.rd,.rd,.rd] [.box 6] (YL n r3.1 r3.2.1 r3.2.2 r12 er12) (.inr (zH (zA.row_mine _) zO)) ?_
 refine fA ?_
 refine mC zF 17 ?_
 refine vB [.rd,.rd,.rd] [.box 6] (YR n r3.1 r3.2.1 r3.2.2 r13 er13) (.inr (zH (zA.row_mine _) zO)) ?_
 refine fA ?_
 refine mC zF 18 ?_
 refine vA [.rd,.rd] (zd n r12 r13 r14 er14) ?_
 refine fA ?_
 refine mA zF [(19,[]),(20,[])] 39 [⟨[17,18,22,24,25,29,31,37,40,45,56,57],31,6,61⟩,⟨[13,17,18,22,24,25,29,31,37,40,45,56,57],31,6,57⟩,⟨[7,8,13,17,18,22,24,25,29,31,37,40,45,56,57],33,5,53⟩,⟨[7,8,13,17,18,22,24,25,29,31,37,40,45,56,57],31,3,51⟩,⟨[3,7,8,13,17,18,22,24,25,29,31,37,40,45,56,57],33,5,49⟩,⟨[3,7,8,13,17,18,22,24,25,29,31,37,40,45,56,57],31,3,47⟩] fun cx => ?_
 refine sA_ 0x8222a80000000fe68 40552 ⟨106,0,[sB 67 r14,sR 61 6 11 0 11 true,sR 57 6 11 0 11 true,sV 53 (Vec.row r2.2.2),sR 51 3 11 0 11 true,sV 49 (Vec.row r2.2.2),sR 47 3 11 0 11 true,sA 15 15 11 0,sI 14 r7.2,sI 13 r7.1,sA 12 12 11 0,sA 11 11 11 0,sA 10 10 11 0,sA 9 9 11 0,sA 6 6 11 0,sA 5 5 5 0,sA 3 3 11 0],[(15,(zA.row r8)),(12,(zA.row r6.2)),(11,(zA.row r6.1)),(10,(zA.row r5)),(9,(zA.row r4)),(6,(zA.row r3.1)),(5,(Vec.row r2.2.2)),(3,(zA.row r2.1))]⟩ ?_
 rw [h3]
 refine mA zF [(21,[22,24,25,29,31,37,40,45,56,57]),(23,[24,25,29,31,37,40,45,56,57])] 37 [⟨[24,25,29,31,37,40,45,56,57],31,9,70⟩,⟨[22,24,25,29,31,37,40,45,56,57],31,9,68⟩,⟨[17,18,22,24,25,29,31,37,40,45,56,57],31,6,61⟩,⟨[13,17,18,22,24,25,29,31,37,40,45,56,57],31,6,57⟩,⟨[7,8,13,17,18,22,24,25,29,31,37,40,45,56,57],33,5,53⟩,⟨[7,8,13,17,18,22,24,25,29,31,37,40,45,56,57],31,3,51⟩,⟨[3,7,8,13,17,18,22,24,25,29,31,37,40,45,56,57],33,5,49⟩,⟨[3,7,8,13,17,18,22,24,25,29,31,37,40,45,56,57],31,3,47⟩] fun cx => ?_
 refine mC zF 22 ?_
 refine vB [.rd] [.box 9] (zAn n r4 r15 er15) (.inr (zH (zA.row_mine _) zO)) ?_
 refine fA ?_
 refine mC zF 24 ?_
 refine vB [.rd] [.box 9] (J8 n r4 r16 er16) (.inr (zH (zA.row_mine _) zO)) ?_
 refine fA ?_
 refine mC zF 25 ?_
 refine vA [.rd,.rd] (zd n r15 r16 r17 er17) ?_
 refine fA ?_
 refine mA zF [(26,[]),(27,[])] 32 [⟨[24,25,29,31,37,40,45,56,57],31,9,70⟩,⟨[22,24,25,29,31,37,40,45,56,57],31,9,68⟩,⟨[17,18,22,24,25,29,31,37,40,45,56,57],31,6,61⟩,⟨[13,17,18,22,24,25,29,31,37,40,45,56,57],31,6,57⟩,⟨[7,8,13,17,18,22,24,25,29,31,37,40,45,56,57],33,5,53⟩,⟨[7,8,13,17,18,22,24,25,29,31,37,40,45,56,57],31,3,51⟩,⟨[3,7,8,13,17,18,22,24,25,29,31,37,40,45,56,57],33,5,49⟩,⟨[3,7,8,13,17,18,22,24,25,29,31,37,40,45,56,57],31,3,47⟩] fun cx => ?_
 refine sA_ 0x450222a80000000fe68 40552 ⟨106,0,[sB 74 r17,sR 70 9 11 0 11 true,sR 68 9 11 0 11 true,sR 61 6 11 0 11 true,sR 57 6 11 0 11 true,sV 53 (Vec.row r2.2.2),sR 51 3 11 0 11 true,sV 49 (Vec.row r2.2.2),sR 47 3 11 0 11 true,sA 15 15 11 0,sI 14 r7.2,sI 13 r7.1,sA 12 12 11 0,sA 11 11 11 0,sA 10 10 11 0,sA 9 9 11 0,sA 6 6 11 0,sA 5 5 5 0,sA 3 3 11 0],[(15,(zA.row r8)),(12,(zA.row r6.2)),(11,(zA.row r6.1)),(10,(zA.row r5)),(9,(zA.row r4)),(6,(zA.row r3.1)),(5,(Vec.row r2.2.2)),(3,(zA.row r2.1))]⟩ ?_
 rw [h4]
 refine mA zF [(28,[29,31,37,40,45,56,57]),(30,[31,37,40,45,56,57])] 30 [⟨[31,37,40,45,56,57],31,10,77⟩,⟨[29,31,37,40,45,56,57],31,10,75⟩,⟨[24,25,29,31,37,40,45,56,57],31,9,70⟩,⟨[22,24,25,29,31,37,40,45,56,57],31,9,68⟩,⟨[17,18,22,24,25,29,31,37,40,45,56,57],31,6,61⟩,⟨[13,17,18,22,24,25,29,31,37,40,45,56,57],31,6,57⟩,⟨[7,8,13,17,18,22,24,25,29,31,37,40,45,56,57],33,5,53⟩,⟨[7,8,13,17,18,22,24,25,29,31,37,40,45,56,57],31,3,51⟩,⟨[3,7,8,13,17,18,22,24,25,29,31,37,40,45,56,57],33,5,49⟩,⟨[3,7,8,13,17,18,22,24,25,29,31,37,40,45,56,57],31,3,47⟩] fun cx => ?_
 refine mC zF 29 ?_
 refine vB [.rd] [.box 10] (Zt n r5 r18 er18) (.inr (zH (zL zR zh) zO)) ?_
 refine fA ?_
 refine mC zF 31 ?_
 refine vB [.rd] [.box 10] (Q0 n r5 r19 er19) (.inr (zH (zL zR zh) zO)) ?_
 refine fA ?_
 refine mA zF [(32,[]),(33,[]),(34,[])] 25 [⟨[31,37,40,45,56,57],31,10,77⟩,⟨[29,31,37,40,45,56,57],31,10,75⟩,⟨[24,25,29,31,37,40,45,56,57],31,9,70⟩,⟨[22,24,25,29,31,37,40,45,56,57],31,9,68⟩,⟨[17,18,22,24,25,29,31,37,40,45,56,57],31,6,61⟩,⟨[13,17,18,22,24,25,29,31,37,40,45,56,57],31,6,57⟩,⟨[7,8,13,17,18,22,24,25,29,31,37,40,45,56,57],33,5,53⟩,⟨[7,8,13,17,18,22,24,25,29,31,37,40,45,56,57],31,3,51⟩,⟨[3,7,8,13,17,18,22,24,25,29,31,37,40,45,56,57],33,5,49⟩,⟨[3,7,8,13,17,18,22,24,25,29,31,37,40,45,56,57],31,3,47⟩] fun cx => ?_
 refine sA_ 0x22850222a80000000fe68 40552 ⟨106,0,[sB 81 (r18 == r19),sR 77 10 11 0 11 true,sR 75 10 11 0 11 true,sR 70 9 11 0 11 true,sR 68 9 11 0 11 true,sR 61 6 11 0 11 true,sR 57 6 11 0 11 true,sV 53 (Vec.row r2.2.2),sR 51 3 11 0 11 true,sV 49 (Vec.row r2.2.2),sR 47 3 11 0 11 true,sA 15 15 11 0,sI 14 r7.2,sI 13 r7.1,sA 12 12 11 0,sA 11 11 11 0,sA 10 10 11 0,sA 9 9 11 0,sA 6 6 11 0,sA 5 5 5 0,sA 3 3 11 0],[(15,(zA.row r8)),(12,(zA.row r6.2)),(11,(zA.row r6.1)),(10,(zA.row r5)),(9,(zA.row r4)),(6,(zA.row r3.1)),(5,(Vec.row r2.2.2)),(3,(zA.row r2.1))]⟩ ?_
 rw [h5]
 refine mA zF [(35,[37,40,45,56,57]),(36,[37,40,45,56,57]),(38,[40,45,56,57]),(39,[40,45,56,57])] 21 [⟨[40,45,56,57],31,12,86⟩,⟨[40,45,56,57],31,11,85⟩,⟨[37,40,45,56,57],31,12,83⟩,⟨[37,40,45,56,57],31,11,82⟩,⟨[31,37,40,45,56,57],31,10,77⟩,⟨[29,31,37,40,45,56,57],31,10,75⟩,⟨[24,25,29,31,37,40,45,56,57],31,9,70⟩,⟨[22,24,25,29,31,37,40,45,56,57],31,9,68⟩,⟨[17,18,22,24,25,29,31,37,40,45,56,57],31,6,61⟩,⟨[13,17,18,22,24,25,29,31,37,40,45,56,57],31,6,57⟩,⟨[7,8,13,17,18,22,24,25,29,31,37,40,45,56,57],33,5,53⟩,⟨[7,8,13,17,18,22,24,25,29,31,37,40,45,56,57],31,3,51⟩,⟨[3,7,8,13,17,18,22,24,25,29,31,37,40,45,56,57],33,5,49⟩,⟨[3,7,8,13,17,18,22,24,25,29,31,37,40,45,56,57],31,3,47⟩] fun cx => ?_
 refine mC zF 37 ?_
 refine vB [.rd,.rd] [.box 11,.box 12] (zd n r6.1 r6.2 r20 er20) (.inr (zH (zL zR zh) zO)) ?_
 refine fA ?_
 refine mC zF 40 ?_
 refine vB [.rd,.rd] [.box 11,.box 12] (zAL n r6.1 r6.2 r21 er21) (.inr (zH (zL zR zh) zO)) ?_
 refine fA ?_
 refine mA zF [(41,[]),(42,[]),(43,[])] 16 [⟨[40,45,56,57],31,12,86⟩,⟨[40,45,56,57],31,11,85⟩,⟨[37,40,45,56,57],31,12,83⟩,⟨[37,40,45,56,57],31,11,82⟩,⟨[31,37,40,45,56,57],31,10,77⟩,⟨[29,31,37,40,45,56,57],31,10,75⟩,⟨[24,25,29,31,37,40,45,56,57],31,9,70⟩,⟨[22,24,25,29,31,37,40,45,56,57],31,9,68⟩,⟨[17,18,22,24,25,29,31,37,40,45,56,57],31,6,61⟩,⟨[13,17,18,22,24,25,29,31,37,40,45,56,57],31,6,57⟩,⟨[7,8,13,17,18,22,24,25,29,31,37,40,45,56,57],33,5,53⟩,⟨[7,8,13,17,18,22,24,25,29,31,37,40,45,56,57],31,3,51⟩,⟨[3,7,8,13,17,18,22,24,25,29,31,37,40,45,56,57],33,5,49⟩,⟨[3,7,8,13,17,18,22,24,25,29,31,37,40,45,56,57],31,3,47⟩] fun cx => ?_
 refine sA_ 0x46c2850222a80000000fe68 40552 ⟨106,0,[sB 90 (r20 == r21),sR 86 12 11 0 11 true,sR 85 11 11 0 11 true,sR 83 12 11 0 11 true,sR 82 11 11 0 11 true,sR 77 10 11 0 11 true,sR 75 10 11 0 11 true,sR 70 9 11 0 11 true,sR 68 9 11 0 11 true,sR 61 6 11 0 11 true,sR 57 6 11 0 11 true,sV 53 (Vec.row r2.2.2),sR 51 3 11 0 11 true,sV 49 (Vec.row r2.2.2),sR 47 3 11 0 11 true,sA 15 15 11 0,sI 14 r7.2,sI 13 r7.1,sA 12 12 11 0,sA 11 11 11 0,sA 10 10 11 0,sA 9 9 11 0,sA 6 6 11 0,sA 5 5 5 0,sA 3 3 11 0],[(15,(zA.row r8)),(12,(zA.row r6.2)),(11,(zA.row r6.1)),(10,(zA.row r5)),(9,(zA.row r4)),(6,(zA.row r3.1)),(5,(Vec.row r2.2.2)),(3,(zA.row r2.1))]⟩ ?_
 rw [h6]
 refine mA zF [(44,[45,56,57]),(46,[]),(47,[56,57])] 13 [⟨[56,57],24,93,94⟩,⟨[45,56,57],31,15,91⟩,⟨[40,45,56,57],31,12,86⟩,⟨[40,45,56,57],31,11,85⟩,⟨[37,40,45,56,57],31,12,83⟩,⟨[37,40,45,56,57],31,11,82⟩,⟨[31,37,40,45,56,57],31,10,77⟩,⟨[29,31,37,40,45,56,57],31,10,75⟩,⟨[24,25,29,31,37,40,45,56,57],31,9,70⟩,⟨[22,24,25,29,31,37,40,45,56,57],31,9,68⟩,⟨[17,18,22,24,25,29,31,37,40,45,56,57],31,6,61⟩,⟨[13,17,18,22,24,25,29,31,37,40,45,56,57],31,6,57⟩,⟨[7,8,13,17,18,22,24,25,29,31,37,40,45,56,57],33,5,53⟩,⟨[7,8,13,17,18,22,24,25,29,31,37,40,45,56,57],31,3,51⟩,⟨[3,7,8,13,17,18,22,24,25,29,31,37,40,45,56,57],33,5,49⟩,⟨[3,7,8,13,17,18,22,24,25,29,31,37,40,45,56,57],31,3,47⟩] fun cx => ?_
 refine kON zF 48 r8.Ps Pt.row fun cx => ?_
 refine mA zF [(49,[])] 11 [⟨[56,57],24,93,94⟩,⟨[45,56,57],31,15,91⟩,⟨[40,45,56,57],31,12,86⟩,⟨[40,45,56,57],31,11,85⟩,⟨[37,40,45,56,57],31,12,83⟩,⟨[37,40,45,56,57],31,11,82⟩,⟨[31,37,40,45,56,57],31,10,77⟩,⟨[29,31,37,40,45,56,57],31,10,75⟩,⟨[24,25,29,31,37,40,45,56,57],31,9,70⟩,⟨[22,24,25,29,31,37,40,45,56,57],31,9,68⟩,⟨[17,18,22,24,25,29,31,37,40,45,56,57],31,6,61⟩,⟨[13,17,18,22,24,25,29,31,37,40,45,56,57],31,6,57⟩,⟨[7,8,13,17,18,22,24,25,29,31,37,40,45,56,57],33,5,53⟩,⟨[7,8,13,17,18,22,24,25,29,31,37,40,45,56,57],31,3,51⟩,⟨[3,7,8,13,17,18,22,24,25,29,31,37,40,45,56,57],33,5,49⟩,⟨[3,7,8,13,17,18,22,24,25,29,31,37,40,45,56,57],31,3,47⟩] fun cx => ?_
 refine mC zF 45 ?_
 refine vB [.rd] [.box 15] (Zt n r8 r22 er22) (.inr (zH (zL zR zh) zO)) ?_
 refine fA ?_
 refine mA zF [(50,[]),(51,[]),(52,[])] 7 [⟨[56,57],24,93,94⟩,⟨[45,56,57],31,15,91⟩,⟨[40,45,56,57],31,12,86⟩,⟨[40,45,56,57],31,11,85⟩,⟨[37,40,45,56,57],31,12,83⟩,⟨[37,40,45,56,57],31,11,82⟩,⟨[31,37,40,45,56,57],31,10,77⟩,⟨[29,31,37,40,45,56,57],31,10,75⟩,⟨[24,25,29,31,37,40,45,56,57],31,9,70⟩,⟨[22,24,25,29,31,37,40,45,56,57],31,9,68⟩,⟨[17,18,22,24,25,29,31,37,40,45,56,57],31,6,61⟩,⟨[13,17,18,22,24,25,29,31,37,40,45,56,57],31,6,57⟩,⟨[7,8,13,17,18,22,24,25,29,31,37,40,45,56,57],33,5,53⟩,⟨[7,8,13,17,18,22,24,25,29,31,37,40,45,56,57],31,3,51⟩,⟨[3,7,8,13,17,18,22,24,25,29,31,37,40,45,56,57],33,5,49⟩,⟨[3,7,8,13,17,18,22,24,25,29,31,37,40,45,56,57],31,3,47⟩] fun cx => ?_
 refine sA_ 0x8686c2850222a80000000fe68 40552 ⟨106,0,[sB 99 (r22 == (decide ((r8.Ps.length : Int) > 0))),sR 94 15 11 2 1 false,sA 93 15 11 2,sR 91 15 11 0 11 true,sR 86 12 11 0 11 true,sR 85 11 11 0 11 true,sR 83 12 11 0 11 true,sR 82 11 11 0 11 true,sR 77 10 11 0 11 true,sR 75 10 11 0 11 true,sR 70 9 11 0 11 true,sR 68 9 11 0 11 true,sR 61 6 11 0 11 true,sR 57 6 11 0 11 true,sV 53 (Vec.row r2.2.2),sR 51 3 11 0 11 true,sV 49 (Vec.row r2.2.2),sR 47 3 11 0 11 true,sA 15 15 11 0,sI 14 r7.2,sI 13 r7.1,sA 12 12 11 0,sA 11 11 11 0,sA 10 10 11 0,sA 9 9 11 0,sA 6 6 11 0,sA 5 5 5 0,sA 3 3 11 0],[(15,(zA.row r8)),(12,(zA.row r6.2)),(11,(zA.row r6.1)),(10,(zA.row r5)),(9,(zA.row r4)),(6,(zA.row r3.1)),(5,(Vec.row r2.2.2)),(3,(zA.row r2.1))]⟩ ?_
 rw [h7]
 refine mA zF [(53,[57]),(54,[]),(55,[])] 4 [⟨[57],31,15,100⟩,⟨[56,57],24,93,94⟩,⟨[45,56,57],31,15,91⟩,⟨[40,45,56,57],31,12,86⟩,⟨[40,45,56,57],31,11,85⟩,⟨[37,40,45,56,57],31,12,83⟩,⟨[37,40,45,56,57],31,11,82⟩,⟨[31,37,40,45,56,57],31,10,77⟩,⟨[29,31,37,40,45,56,57],31,10,75⟩,⟨[24,25,29,31,37,40,45,56,57],31,9,70⟩,⟨[22,24,25,29,31,37,40,45,56,57],31,9,68⟩,⟨[17,18,22,24,25,29,31,37,40,45,56,57],31,6,61⟩,⟨[13,17,18,22,24,25,29,31,37,40,45,56,57],31,6,57⟩,⟨[7,8,13,17,18,22,24,25,29,31,37,40,45,56,57],33,5,53⟩,⟨[7,8,13,17,18,22,24,25,29,31,37,40,45,56,57],31,3,51⟩,⟨[3,7,8,13,17,18,22,24,25,29,31,37,40,45,56,57],33,5,49⟩,⟨[3,7,8,13,17,18,22,24,25,29,31,37,40,45,56,57],31,3,47⟩] fun cx => ?_
 refine mC zF 56 ?_
 refine vA [.rd,.rd] (zCT n r7.1 r7.2 r23 er23) ?_
 refine fA ?_
 refine mC zF 57 ?_
 refine vB [.rd,.rd] [.box 15] (zd n r8 r23 r24 er24) (.inr (zH (zL zR zh) zO)) ?_
 refine fA ?_
 refine mA zF [(58,[]),(59,[])] 0 [⟨[57],31,15,100⟩,⟨[56,57],24,93,94⟩,⟨[45,56,57],31,15,91⟩,⟨[40,45,56,57],31,12,86⟩,⟨[40,45,56,57],31,11,85⟩,⟨[37,40,45,56,57],31,12,83⟩,⟨[37,40,45,56,57],31,11,82⟩,⟨[31,37,40,45,56,57],31,10,77⟩,⟨[29,31,37,40,45,56,57],31,10,75⟩,⟨[24,25,29,31,37,40,45,56,57],31,9,70⟩,⟨[22,24,25,29,31,37,40,45,56,57],31,9,68⟩,⟨[17,18,22,24,25,29,31,37,40,45,56,57],31,6,61⟩,⟨[13,17,18,22,24,25,29,31,37,40,45,56,57],31,6,57⟩,⟨[7,8,13,17,18,22,24,25,29,31,37,40,45,56,57],33,5,53⟩,⟨[7,8,13,17,18,22,24,25,29,31,37,40,45,56,57],31,3,51⟩,⟨[3,7,8,13,17,18,22,24,25,29,31,37,40,45,56,57],33,5,49⟩,⟨[3,7,8,13,17,18,22,24,25,29,31,37,40,45,56,57],31,3,47⟩] fun cx => ?_
 exact mE zF [2] []
theorem zDL (n : Nat) (x0 : (List Int)) (r : Bool) (H : Qt n x0 = some r) : zG Tryz.prog 3 [.val false [.sl false 1 (CV.frzEs (x0.map zk))]] [.val false [.lit (.bool r)]] [] := by
 refine cW Tryz.func3 (fun g d => sl [g 0,sl [g 1] (cn 17 (sl [g 2] .ret) .skip),g 3,g 4,g 5,g 6,g 7,g 8,g 9,d 10] .ret) [.tmp 2] fun cx => ?_
 unfold Qt at H
 refine gA 1 1 0 ?_
 refine tS ?_
 refine rA 1 ?_
 obtain ⟨r1,er1,H⟩ := bs H
 refine vA [.rd] (zIi n x0 r1 er1) ?_
 refine dA 131073 0 ?_
 cases h1 : r1
 ·have H := zI h1 H
  refine nB_ ?_
  refine tK ?_
  refine rA 1 ?_
  obtain ⟨r2,er2,H⟩ := bs H
  refine vA [.rd] (zET n x0 r2 er2) ?_
  refine LAt.movT tOk (ty := 34) (t := 20) (d := 18) (g := none) [(true,(zA.row r2.1)),(false,[cI r2.2.1]),(true,(Vec.row r2.2.2))] _ kr (.inl rfl) kr kr kr kr rfl ?_
  refine uA 8 57 40 ?_
  refine rA 1 ?_
  obtain ⟨r3,er3,H⟩ := bs H
  refine vA [.rd] (zEU n x0 r3 er3) ?_
  refine LAt.movT tOk (ty := 36) (t := 26) (d := 24) (g := none) [(true,(zA.row r3.1)),(false,[cI r3.2.1]),(false,[cB r3.2.2])] _ kr (.inl rfl) kr kr kr kr rfl ?_
  refine uA 7 505 104 ?_
  refine rA 1 ?_
  obtain ⟨r4,er4,H⟩ := bs H
  refine vA [.rd] (zGJ n x0 r4 er4) ?_
  refine uA 2 1017 616 ?_
  refine rA 1 ?_
  obtain ⟨r5,er5,H⟩ := bs H
  refine vA [.rd] (zDx n x0 r5 er5) ?_
  refine uA 2 2041 1640 ?_
  refine rA 1 ?_
  obtain ⟨r6,er6,H⟩ := bs H
  refine vA [.rd] (zC8 n x0 r6 er6) ?_
  refine LAt.movT tOk (ty := 39) (t := 36) (d := 34) (g := none) [(true,(zA.row r6.1)),(true,(zA.row r6.2))] _ kr (.inl rfl) kr kr kr kr rfl ?_
  refine uA 6 8185 7784 ?_
  refine rA 1 ?_
  obtain ⟨r7,er7,H⟩ := bs H
  refine vA [.rd] (zDY n x0 r7 er7) ?_
  refine LAt.movT tOk (ty := 41) (t := 41) (d := 39) (g := none) [(false,[cI r7.1]),(false,[cI r7.2])] _ kr (.inl rfl) kr kr kr kr rfl ?_
  refine uA 4 32760 7784 ?_
  refine rA 2 ?_
  obtain ⟨r8,er8,H⟩ := bs H
  refine vA [.rd,.rd] (zFS n r7.1 r7.2 r8 er8) ?_
  refine uA 2 65528 40552 ?_
  obtain ⟨r9,er9,H⟩ := bs H
  obtain ⟨r10,er10,H⟩ := bs H
  obtain ⟨r11,er11,H⟩ := bs H
  refine sT ⟨106,0,[sA 15 15 11 0,sI 14 r7.2,sI 13 r7.1,sA 12 12 11 0,sA 11 11 11 0,sA 10 10 11 0,sA 9 9 11 0,sB 8 r3.2.2,sI 7 r3.2.1,sA 6 6 11 0,sI 4 r2.2.1,sA 5 5 5 0,sA 3 3 11 0],[(15,(zA.row r8)),(12,(zA.row r6.2)),(11,(zA.row r6.1)),(10,(zA.row r5)),(9,(zA.row r4)),(6,(zA.row r3.1)),(5,(Vec.row r2.2.2)),(3,(zA.row r2.1))]⟩ ?_
  cases h2 : r11
  ·have H := zI h2 H
   refine sT ⟨106,0,[sA 15 15 11 0,sI 14 r7.2,sI 13 r7.1,sA 12 12 11 0,sA 11 11 11 0,sA 10 10 11 0,sA 9 9 11 0,sB 8 r3.2.2,sI 7 r3.2.1,sA 6 6 11 0,sI 4 r2.2.1,sA 5 5 5 0,sA 3 3 11 0],[(15,(zA.row r8)),(12,(zA.row r6.2)),(11,(zA.row r6.1)),(10,(zA.row r5)),(9,(zA.row r4)),(6,(zA.row r3.1)),(5,(Vec.row r2.2.2)),(3,(zA.row r2.1))]⟩ ?_
   refine Tr.draws mixed 60 kr ⟨106,0,[sB 2 false],[]⟩ (zCK n r2 r9 r10 r11 r7 r3 r8 r6 r5 r4 er9 er10 er11 h2) ?_
   exact te (fF H)
  have H := zJ h2 H
  obtain ⟨r12,er12,H⟩ := bs H
  obtain ⟨r13,er13,H⟩ := bs H
  obtain ⟨r14,er14,H⟩ := bs H
  refine sT ⟨106,0,[sA 15 15 11 0,sI 14 r7.2,sI 13 r7.1,sA 12 12 11 0,sA 11 11 11 0,sA 10 10 11 0,sA 9 9 11 0,sB 8 r3.2.2,sI 7 r3.2.1,sA 6 6 11 0,sI 4 r2.2.1,sA 5 5 5 0,sA 3 3 11 0],[(15,(zA.row r8)),(12,(zA.row r6.2)),(11,(zA.row r6.1)),(10,(zA.row r5)),(9,(zA.row r4)),(6,(zA.row r3.1)),(5,(Vec.row r2.2.2)),(3,(zA.row r2.1))]⟩ ?_
  cases h3 : r14
  ·have H := zI h3 H
   refine sT ⟨106,0,[sA 15 15 11 0,sI 14 r7.2,sI 13 r7.1,sA 12 12 11 0,sA 11 11 11 0,sA 10 10 11 0,sA 9 9 11 0,sB 8 r3.2.2,sI 7 r3.2.1,sA 6 6 11 0,sI 4 r2.2.1,sA 5 5 5 0,sA 3 3 11 0],[(15,(zA.row r8)),(12,(zA.row r6.2)),(11,(zA.row r6.1)),(10,(zA.row r5)),(9,(zA.row r4)),(6,(zA.row r3.1)),(5,(Vec.row r2.2.2)),(3,(zA.row r2.1))]⟩ ?_
   refine Tr.draws mixed 60 kr ⟨106,0,[sB 2 false],[]⟩ (zCL n r2 r9 r10 r11 r7 r3 r8 r6 r5 r4 r12 r13 r14 er9 er10 er11 h2 er12 er13 er14 h3) ?_
   exact te (fF H)
  have H := zJ h3 H
  obtain ⟨r15,er15,H⟩ := bs H
  obtain ⟨r16,er16,H⟩ := bs H
  obtain ⟨r17,er17,H⟩ := bs H
  refine sT ⟨106,0,[sA 15 15 11 0,sI 14 r7.2,sI 13 r7.1,sA 12 12 11 0,sA 11 11 11 0,sA 10 10 11 0,sA 9 9 11 0,sB 8 r3.2.2,sI 7 r3.2.1,sA 6 6 11 0,sI 4 r2.2.1,sA 5 5 5 0,sA 3 3 11 0],[(15,(zA.row r8)),(12,(zA.row r6.2)),(11,(zA.row r6.1)),(10,(zA.row r5)),(9,(zA.row r4)),(6,(zA.row r3.1)),(5,(Vec.row r2.2.2)),(3,(zA.row r2.1))]⟩ ?_
  cases h4 : r17
  ·have H := zI h4 H
   refine sT ⟨106,0,[sA 15 15 11 0,sI 14 r7.2,sI 13 r7.1,sA 12 12 11 0,sA 11 11 11 0,sA 10 10 11 0,sA 9 9 11 0,sB 8 r3.2.2,sI 7 r3.2.1,sA 6 6 11 0,sI 4 r2.2.1,sA 5 5 5 0,sA 3 3 11 0],[(15,(zA.row r8)),(12,(zA.row r6.2)),(11,(zA.row r6.1)),(10,(zA.row r5)),(9,(zA.row r4)),(6,(zA.row r3.1)),(5,(Vec.row r2.2.2)),(3,(zA.row r2.1))]⟩ ?_
   refine Tr.draws mixed 60 kr ⟨106,0,[sB 2 false],[]⟩ (zCM n r2 r9 r10 r11 r7 r3 r8 r6 r5 r4 r12 r13 r14 r15 r16 r17 er9 er10 er11 h2 er12 er13 er14 h3 er15 er16 er17 h4) ?_
   exact te (fF H)
  have H := zJ h4 H
  obtain ⟨r18,er18,H⟩ := bs H
  obtain ⟨r19,er19,H⟩ := bs H
  refine sT ⟨106,0,[sA 15 15 11 0,sI 14 r7.2,sI 13 r7.1,sA 12 12 11 0,sA 11 11 11 0,sA 10 10 11 0,sA 9 9 11 0,sB 8 r3.2.2,sI 7 r3.2.1,sA 6 6 11 0,sI 4 r2.2.1,sA 5 5 5 0,sA 3 3 11 0],[(15,(zA.row r8)),(12,(zA.row r6.2)),(11,(zA.row r6.1)),(10,(zA.row r5)),(9,(zA.row r4)),(6,(zA.row r3.1)),(5,(Vec.row r2.2.2)),(3,(zA.row r2.1))]⟩ ?_
  cases h5 : (r18 == r19)
  ·have H := zI h5 H
   refine sT ⟨106,0,[sA 15 15 11 0,sI 14 r7.2,sI 13 r7.1,sA 12 12 11 0,sA 11 11 11 0,sA 10 10 11 0,sA 9 9 11 0,sB 8 r3.2.2,sI 7 r3.2.1,sA 6 6 11 0,sI 4 r2.2.1,sA 5 5 5 0,sA 3 3 11 0],[(15,(zA.row r8)),(12,(zA.row r6.2)),(11,(zA.row r6.1)),(10,(zA.row r5)),(9,(zA.row r4)),(6,(zA.row r3.1)),(5,(Vec.row r2.2.2)),(3,(zA.row r2.1))]⟩ ?_
   refine Tr.draws mixed 60 kr ⟨106,0,[sB 2 false],[]⟩ (zCN n r2 r9 r10 r11 r7 r3 r8 r6 r5 r4 r12 r13 r14 r15 r16 r17 r18 r19 er9 er10 er11 h2 er12 er13 er14 h3 er15 er16 er17 h4 er18 er19 h5) ?_
   exact te (fF H)
  have H := zJ h5 H
  obtain ⟨r20,er20,H⟩ := bs H
  obtain ⟨r21,er21,H⟩ := bs H
  refine sT ⟨106,0,[sA 15 15 11 0,sI 14 r7.2,sI 13 r7.1,sA 12 12 11 0,sA 11 11 11 0,sA 10 10 11 0,sA 9 9 11 0,sB 8 r3.2.2,sI 7 r3.2.1,sA 6 6 11 0,sI 4 r2.2.1,sA 5 5 5 0,sA 3 3 11 0],[(15,(zA.row r8)),(12,(zA.row r6.2)),(11,(zA.row r6.1)),(10,(zA.row r5)),(9,(zA.row r4)),(6,(zA.row r3.1)),(5,(Vec.row r2.2.2)),(3,(zA.row r2.1))]⟩ ?_
  cases h6 : (r20 == r21)
  ·have H := zI h6 H
   refine sT ⟨106,0,[sA 15 15 11 0,sI 14 r7.2,sI 13 r7.1,sA 12 12 11 0,sA 11 11 11 0,sA 10 10 11 0,sA 9 9 11 0,sB 8 r3.2.2,sI 7 r3.2.1,sA 6 6 11 0,sI 4 r2.2.1,sA 5 5 5 0,sA 3 3 11 0],[(15,(zA.row r8)),(12,(zA.row r6.2)),(11,(zA.row r6.1)),(10,(zA.row r5)),(9,(zA.row r4)),(6,(zA.row r3.1)),(5,(Vec.row r2.2.2)),(3,(zA.row r2.1))]⟩ ?_
   refine Tr.draws mixed 60 kr ⟨106,0,[sB 2 false],[]⟩ (zCO n r2 r9 r10 r11 r7 r3 r8 r6 r5 r4 r12 r13 r14 r15 r16 r17 r18 r19 r20 r21 er9 er10 er11 h2 er12 er13 er14 h3 er15 er16 er17 h4 er18 er19 h5 er20 er21 h6) ?_
   exact te (fF H)
  have H := zJ h6 H
  obtain ⟨r22,er22,H⟩ := bs H
  refine sT ⟨106,0,[sA 15 15 11 0,sI 14 r7.2,sI 13 r7.1,sA 12 12 11 0,sA 11 11 11 0,sA 10 10 11 0,sA 9 9 11 0,sB 8 r3.2.2,sI 7 r3.2.1,sA 6 6 11 0,sI 4 r2.2.1,sA 5 5 5 0,sA 3 3 11 0],[(15,(zA.row r8)),(12,(zA.row r6.2)),(11,(zA.row r6.1)),(10,(zA.row r5)),(9,(zA.row r4)),(6,(zA.row r3.1)),(5,(Vec.row r2.2.2)),(3,(zA.row r2.1))]⟩ ?_
  cases h7 : (r22 == (decide ((r8.Ps.length : Int) > 0)))
  ·have H := zI h7 H
   refine sT ⟨106,0,[sA 15 15 11 0,sI 14 r7.2,sI 13 r7.1,sA 12 12 11 0,sA 11 11 11 0,sA 10 10 11 0,sA 9 9 11 0,sB 8 r3.2.2,sI 7 r3.2.1,sA 6 6 11 0,sI 4 r2.2.1,sA 5 5 5 0,sA 3 3 11 0],[(15,(zA.row r8)),(12,(zA.row r6.2)),(11,(zA.row r6.1)),(10,(zA.row r5)),(9,(zA.row r4)),(6,(zA.row r3.1)),(5,(Vec.row r2.2.2)),(3,(zA.row r2.1))]⟩ ?_
   refine Tr.draws mixed 60 kr ⟨106,0,[sB 2 false],[]⟩ (zCP n r2 r9 r10 r11 r7 r3 r8 r6 r5 r4 r12 r13 r14 r15 r16 r17 r18 r19 r20 r21 r22 er9 er10 er11 h2 er12 er13 er14 h3 er15 er16 er17 h4 er18 er19 h5 er20 er21 h6 er22 h7) ?_
   exact te (fF H)
  have H := zJ h7 H
  obtain ⟨r23,er23,H⟩ := bs H
  obtain ⟨r24,er24,H⟩ := bs H
  refine sT ⟨106,0,[sA 15 15 11 0,sI 14 r7.2,sI 13 r7.1,sA 12 12 11 0,sA 11 11 11 0,sA 10 10 11 0,sA 9 9 11 0,sB 8 r3.2.2,sI 7 r3.2.1,sA 6 6 11 0,sI 4 r2.2.1,sA 5 5 5 0,sA 3 3 11 0],[(15,(zA.row r8)),(12,(zA.row r6.2)),(11,(zA.row r6.1)),(10,(zA.row r5)),(9,(zA.row r4)),(6,(zA.row r3.1)),(5,(Vec.row r2.2.2)),(3,(zA.row r2.1))]⟩ ?_
  refine Tr.draws mixed 60 kr ⟨106,0,[sB 2 r24],[]⟩ (zCQ n r2 r9 r10 r11 r7 r3 r8 r6 r5 r4 r12 r13 r14 r15 r16 r17 r18 r19 r20 r21 r22 r23 r24 er9 er10 er11 h2 er12 er13 er14 h3 er15 er16 er17 h4 er18 er19 h5 er20 er21 h6 er22 h7 er23 er24) ?_
  exact te (fJ [(false,[cB r24])] H)
 have H := zJ h1 H
 refine tB_ ?_
 refine gA 1 4 0 ?_
 exact te (fT H)
end Go.Proofs.YtajadnlejdpceaaGreat.Tw
