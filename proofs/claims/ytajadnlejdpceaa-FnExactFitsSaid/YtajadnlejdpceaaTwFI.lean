import Derived.Test.YtajadnlejdpceaaProg
import Derived.Test.YtajadnlejdpceaaTlRule
import Derived.Test.YtajadnlejdpceaaTlU13
import Derived.WalkKit
set_option linter.unusedVariables false
set_option linter.unusedSimpArgs false
set_option maxRecDepth 100000
set_option maxHeartbeats 1000000
namespace Go.Proofs.Ytajadnlejdpceaa.Tw
open Go Go.TL Go.Proofs
def tab : List (Nat × TI) := [(2,⟨.int .i64,1,8,[.lit (.int .i64 0)]⟩),
  (3,⟨.int .i64,1,8,[.lit (.int .i64 0)]⟩),
  (4,⟨.bool,1,1,[.lit (.bool false)]⟩),
  (5,⟨.int .u8,1,1,[.lit (.int .u8 0)]⟩),
  (9,⟨.str,1,16,[.lit (.string ⟨#[]⟩)]⟩),
  (22,⟨.sl 128,1,24,[.sl true 5 []]⟩),
  (24,⟨.st [(0,1,3),(1,1,3),(2,1,3),(3,1,3),(4,1,22)],5,56,[.lit (.int .i64 0),.lit (.int .i64 0),.lit (.int .i64 0),.lit (.int .i64 0),.sl true 5 []]⟩),
  (27,⟨.sl 68,1,24,[.sl true 5 []]⟩),
  (29,⟨.st [(0,1,3),(1,1,3),(2,1,3),(3,1,3),(4,1,27)],5,56,[.lit (.int .i64 0),.lit (.int .i64 0),.lit (.int .i64 0),.lit (.int .i64 0),.sl true 5 []]⟩),
  (33,⟨.sl 5,1,24,[.sl true 1 []]⟩),
  (38,⟨.sl 3,1,24,[.sl true 1 []]⟩),
  (66,⟨.st [(0,1,3),(1,1,3),(2,1,9),(3,1,38)],4,56,[.lit (.int .i64 0),.lit (.int .i64 0),.lit (.string ⟨#[]⟩),.sl true 1 []]⟩),
  (68,⟨.st [(0,1,38),(1,4,66)],5,80,[.sl true 1 [],.lit (.int .i64 0),.lit (.int .i64 0),.lit (.string ⟨#[]⟩),.sl true 1 []]⟩),
  (103,⟨.int .u64,1,8,[.lit (.int .u64 0)]⟩),
  (126,⟨.st [(0,1,3),(1,1,3),(2,1,9),(3,1,38)],4,56,[.lit (.int .i64 0),.lit (.int .i64 0),.lit (.string ⟨#[]⟩),.sl true 1 []]⟩),
  (128,⟨.st [(0,1,38),(1,4,126)],5,80,[.sl true 1 [],.lit (.int .i64 0),.lit (.int .i64 0),.lit (.string ⟨#[]⟩),.sl true 1 []]⟩)]
def tI (t : Nat) : TI := (lk tab t).getD ⟨.bool,1,1,[]⟩
theorem mixed : Try.prog.follows .mixedOrders = true := by kernel_rfl
theorem tOk : TOk Try.prog (lk tab) := zEI (by kernel_rfl)
instance : TC Try.prog (lk tab) := ⟨tOk⟩
structure Val where
  K : Int
  N : Int
  S : ByteArray
  O : (List Int)
def Val.row (v : Val) : List CV := [.lit (.int .i64 v.K),.lit (.int .i64 v.N),.lit (.string v.S),.sl true 1 (v.O.map intRow)]
def Val.wf (v : Val) : Prop := Qm v.K ∧ Qm v.N ∧ v.S.size ≤ maxLen ∧ Jk Qm v.O ∧ True
theorem Val.enc : Enc Val [.int .i64,.int .i64,.str,.sl 1 [.int .i64]] Val.row Val.wf := fun cs h => by
  obtain ⟨c0,r0,rfl,k0,h⟩ := zz h
  obtain ⟨c1,r1,rfl,k1,h⟩ := zz h
  obtain ⟨c2,r2,rfl,k2,h⟩ := zz h
  obtain ⟨c3,r3,rfl,k3,h⟩ := zz h
  obtain rfl := Ya h
  obtain ⟨x0,rfl,w0⟩ := Zb k0
  obtain ⟨x1,rfl,w1⟩ := Zb k1
  obtain ⟨x2,rfl,w2⟩ := zBg k2
  obtain ⟨x3,rfl,w3⟩ := Enc.sl zBe k3
  exact ⟨⟨x0,x1,x2,x3⟩,rfl,⟨w0,w1,w2,w3,trivial⟩⟩
theorem Val.row_mine (v : Val) : CV.mineRow (Val.row v) := zL zm (zL zm (zL zm (zL (ql (qL Yt _)) (za))))
structure zC where
  O : (List Int)
  V : Val
def zC.row (v : zC) : List CV := [.sl true 1 (v.O.map intRow),.lit (.int .i64 v.V.K),.lit (.int .i64 v.V.N),.lit (.string v.V.S),.sl true 1 (v.V.O.map intRow)]
def zC.wf (v : zC) : Prop := Jk Qm v.O ∧ Qm v.V.K ∧ Qm v.V.N ∧ v.V.S.size ≤ maxLen ∧ Jk Qm v.V.O ∧ True
theorem zC.enc : Enc zC [.sl 1 [.int .i64],.int .i64,.int .i64,.str,.sl 1 [.int .i64]] zC.row zC.wf := fun cs h => by
  obtain ⟨c0,r0,rfl,k0,h⟩ := zz h
  obtain ⟨c1,r1,rfl,k1,h⟩ := zz h
  obtain ⟨c2,r2,rfl,k2,h⟩ := zz h
  obtain ⟨c3,r3,rfl,k3,h⟩ := zz h
  obtain ⟨c4,r4,rfl,k4,h⟩ := zz h
  obtain rfl := Ya h
  obtain ⟨x0,rfl,w0⟩ := Enc.sl zBe k0
  obtain ⟨x1,rfl,w1⟩ := Zb k1
  obtain ⟨x2,rfl,w2⟩ := Zb k2
  obtain ⟨x3,rfl,w3⟩ := zBg k3
  obtain ⟨x4,rfl,w4⟩ := Enc.sl zBe k4
  exact ⟨⟨x0,⟨x1,x2,x3,x4⟩⟩,rfl,⟨w0,w1,w2,w3,w4,trivial⟩⟩
theorem zC.row_mine (v : zC) : CV.mineRow (zC.row v) := zL (ql (qL Yt _)) (zL zm (zL zm (zL zm (zL (ql (qL Yt _)) (za)))))
structure Pdu where
  Ki : Int
  Id : Int
  A : Int
  B : Int
  Binds : (List zC)
def Pdu.row (v : Pdu) : List CV := [.lit (.int .i64 v.Ki),.lit (.int .i64 v.Id),.lit (.int .i64 v.A),.lit (.int .i64 v.B),.sl true 5 (v.Binds.map zC.row)]
def Pdu.wf (v : Pdu) : Prop := Qm v.Ki ∧ Qm v.Id ∧ Qm v.A ∧ Qm v.B ∧ Jk zC.wf v.Binds ∧ True
theorem Pdu.enc : Enc Pdu [.int .i64,.int .i64,.int .i64,.int .i64,.sl 5 [.sl 1 [.int .i64],.int .i64,.int .i64,.str,.sl 1 [.int .i64]]] Pdu.row Pdu.wf := fun cs h => by
  obtain ⟨c0,r0,rfl,k0,h⟩ := zz h
  obtain ⟨c1,r1,rfl,k1,h⟩ := zz h
  obtain ⟨c2,r2,rfl,k2,h⟩ := zz h
  obtain ⟨c3,r3,rfl,k3,h⟩ := zz h
  obtain ⟨c4,r4,rfl,k4,h⟩ := zz h
  obtain rfl := Ya h
  obtain ⟨x0,rfl,w0⟩ := Zb k0
  obtain ⟨x1,rfl,w1⟩ := Zb k1
  obtain ⟨x2,rfl,w2⟩ := Zb k2
  obtain ⟨x3,rfl,w3⟩ := Zb k3
  obtain ⟨x4,rfl,w4⟩ := Enc.sl zC.enc k4
  exact ⟨⟨x0,x1,x2,x3,x4⟩,rfl,⟨w0,w1,w2,w3,w4,trivial⟩⟩
theorem Pdu.row_mine (v : Pdu) : CV.mineRow (Pdu.row v) := zL zm (zL zm (zL zm (zL zm (zL (ql (qL zC.row_mine _)) (za)))))
def QC (n : Nat) (x0 : (List Int)) (x1 : Int) : Option (Int) :=
  (bif (decide ((IntKind.wrap .i64 (x1 - (x0.length : Int))) < 0)) then (some (-1)) else (some (IntKind.wrap .i64 (x1 - (x0.length : Int)))))
theorem zAC (n : Nat) (x0 : (List Int)) (x1 : Int) (r : Int) (H : QC n x0 x1 = some r) : zJ Try.prog 131 [.val false [.sl false 1 (CV.frzEs (x0.map intRow))],.val false [.lit (.int .i64 x1)]] [.val false [.lit (.int .i64 r)]] [] := by
 refine cW Try.func131 (fun g d => sl [g 0,g 1,sl [g 2] (cn 10 (sl [g 3] .ret) .skip),g 4] .ret) [.tmp 4] fun cx => ?_
 unfold QC at H
 refine gA 1 3 0 ?_
 refine rA 2 ?_
 refine kF x0 intRow ?_
 refine uA 2 2 0 ?_
 refine tS ?_
 refine gA 2 1026 0 ?_
 obtain ⟨h1,H⟩ | ⟨h1,H⟩ := bC H
 ·refine nA h1 ?_
  refine tK ?_
  refine gA 2 16 0 ?_
  exact te (fJ [(false,[cI (IntKind.wrap .i64 (x1 - (x0.length : Int)))])] H)
 refine tA h1 ?_
 refine gA 1 16 0 ?_
 exact te (fJ [(false,[cI (-1)])] H)
def Qd (n : Nat) (x0 : Val) (x1 : Int) : Option (Int) :=
  (bif (decide ((IntKind.wrap .i64 (x1 - (x0.S.size : Int))) < 0)) then (some (-1)) else ((QC n x0.O (IntKind.wrap .i64 (x1 - (x0.S.size : Int)))).bind fun r1 => (bif (decide (r1 < 0)) then (some (-1)) else (some r1))))
theorem zCp (n : Nat) (x0 : Val) (x1 : Int) (r : Int) (H : Qd n x0 x1 = some r) : zJ Try.prog 132 [.val true (CV.frzRow (Val.row x0)),.val false [.lit (.int .i64 x1)]] [.val false [.lit (.int .i64 r)]] [] := by
 refine cW Try.func132 (fun g d => sl [g 0,g 1,sl [g 2] (cn 11 (sl [g 3] .ret) .skip),g 4,sl [g 5] (cn 17 (sl [g 6] .ret) .skip),g 7] .ret) [.tmp 4] fun cx => ?_
 unfold Qd at H
 refine gA 2 6 4 ?_
 refine gA 6 6 4 ?_
 refine tS ?_
 refine gA 2 2054 4 ?_
 obtain ⟨h1,H⟩ | ⟨h1,H⟩ := bC H
 ·refine nA h1 ?_
  refine tK ?_
  refine rA 3 ?_
  obtain ⟨r1,er1,H⟩ := bs H
  refine vA [.rd,.rd] (zAC n x0.O (IntKind.wrap .i64 (x1 - (x0.S.size : Int))) r1 er1) ?_
  refine uA 1 2 0 ?_
  refine tS ?_
  refine gA 2 131074 0 ?_
  obtain ⟨h2,H⟩ | ⟨h2,H⟩ := bC H
  ·refine nA h2 ?_
   refine tK ?_
   refine gA 2 16 0 ?_
   exact te (fJ [(false,[cI r1])] H)
  refine tA h2 ?_
  refine gA 1 16 0 ?_
  exact te (fJ [(false,[cI (-1)])] H)
 refine tA h1 ?_
 refine gA 1 16 0 ?_
 exact te (fJ [(false,[cI (-1)])] H)
def ZT (n : Nat) (x0 : zC) (x1 : Int) : Option (Int) :=
  ((QC n x0.O x1).bind fun r1 => (bif (decide (r1 < 0)) then (some (-1)) else ((Qd n x0.V r1).bind fun r2 => (bif (decide (r2 < 0)) then (some (-1)) else (some r2)))))
theorem zB9 (n : Nat) (x0 : zC) (x1 : Int) (r : Int) (H : ZT n x0 x1 = some r) : zJ Try.prog 82 [.val true (CV.frzRow (zC.row x0)),.val false [.lit (.int .i64 x1)]] [.val false [.lit (.int .i64 r)]] [] := by
 refine cW Try.func82 (fun g d => sl [g 0,g 1,sl [g 2] (cn 10 (sl [g 3] .ret) .skip),g 4,sl [g 5] (cn 16 (sl [g 6] .ret) .skip),g 7] .ret) [.tmp 4] fun cx => ?_
 unfold ZT at H
 refine gA 2 6 4 ?_
 refine rA 3 ?_
 obtain ⟨r1,er1,H⟩ := bs H
 refine vA [.rd,.rd] (zAC n x0.O x1 r1 er1) ?_
 refine uA 1 6 4 ?_
 refine tS ?_
 refine gA 2 1030 4 ?_
 obtain ⟨h1,H⟩ | ⟨h1,H⟩ := bC H
 ·refine nA h1 ?_
  refine tK ?_
  refine rA 3 ?_
  obtain ⟨r2,er2,H⟩ := bs H
  refine vA [.rd,.rd] (zCp n x0.V r1 r2 er2) ?_
  refine uA 1 2 0 ?_
  refine tS ?_
  refine gA 2 65538 0 ?_
  obtain ⟨h2,H⟩ | ⟨h2,H⟩ := bC H
  ·refine nA h2 ?_
   refine tK ?_
   refine gA 2 16 0 ?_
   exact te (fJ [(false,[cI r2])] H)
  refine tA h2 ?_
  refine gA 1 16 0 ?_
  exact te (fJ [(false,[cI (-1)])] H)
 refine tA h1 ?_
 refine gA 1 16 0 ?_
 exact te (fJ [(false,[cI (-1)])] H)
def Zz (n : Nat) (y3 : Int) : Option (Int) :=
  (some y3)
def qS (n : Nat) : Nat → (List zC) → Int → Int → Option ((Int) ⊕ (Int))
  | 0,_,_,_ => none
  | mo4 + 1,x0,y1,y2 => (bif (decide (y1 < (x0.length : Int))) then ((idx x0 y1).bind fun v5 => ((ZT n v5 y2).bind fun r6 => (bif (decide (r6 < 0)) then (some (Sum.inr (-1))) else (qS n mo4 x0 (IntKind.wrap .i64 (y1 + 1)) r6)))) else (some (Sum.inl y2)))
def Zo (n : Nat) (x0 : (List zC)) (x1 : Int) : Option (Int) :=
  (bif (decide ((IntKind.wrap .i64 (x1 - (x0.length : Int))) < 0)) then (some (-1)) else ((qS n n x0 0 (IntKind.wrap .i64 (x1 - (x0.length : Int)))).bind fun o => match o with | .inl y3 => (Zz n y3) | .inr r => some r))
theorem zBl (n : Nat) (x0 : (List zC)) (x1 : Int) (r : Int) (H : Zo n x0 x1 = some r) : zJ Try.prog 40 [.val false [.sl false 5 (CV.frzEs (x0.map zC.row))],.val false [.lit (.int .i64 x1)]] [.val false [.lit (.int .i64 r)]] [] := by
 refine cW Try.func40 (fun g d => sl [g 0,g 1,sl [g 2] (cn 11 (sl [g 3] .ret) .skip),sl [g 4] (.block 0 (.loop (sl [sl [g 5] (cn 15 .skip (.exit 0)),.block 1 (sl [g 7,g 8] (cn 25 (sl [g 9] .ret) .skip))] (g 6)))),g 10] .ret) [.tmp 4] fun cx => ?_
 unfold Zo at H
 refine gA 1 3 0 ?_
 refine rA 2 ?_
 refine kF x0 zC.row ?_
 refine uA 2 3 0 ?_
 refine tS ?_
 refine gA 2 2051 0 ?_
 obtain ⟨h1,H⟩ | ⟨h1,H⟩ := bC H
 ·refine nA h1 ?_
  refine tK ?_
  refine tS ?_
  refine gA 1 35 0 ?_
  obtain ⟨o4,eo4,Ho4⟩ := bs H
  clear H
  refine Tr.mid (ι := Int) (fun v => ⟨27,0,[sI 1 v],[]⟩) (fun v => Zz n v = some r) ?_ ?_
  ·refine tB ?_
   refine Tr.loop (ι := Nat × (Int × Int)) (fun v => ⟨27,0,[sI 5 v.2.1,sI 1 v.2.2,sC 0 (cF 5 x0 zC.row)],[]⟩) (fun v => qS n v.1 x0 v.2.1 v.2.2 = some o4) (fun v => v.1) (n,(0,(IntKind.wrap .i64 (x1 - (x0.length : Int))))) eo4 (St.sub_of [5,1,0] [] kr) ?_
   rintro ⟨mo4,y1,y2⟩ H
   have H : qS n mo4 x0 y1 y2 = some o4 := H
   obtain _ | mo4 := mo4
   ·exact nN H
   rw [qS] at H
   refine tS ?_
   refine rA 2 ?_
   refine kF x0 zC.row ?_
   refine uA 1 32803 0 ?_
   obtain ⟨h2,H⟩ | ⟨h2,H⟩ := bC H
   ·refine nA h2 ?_
    refine Tr.exit ?_
    refine aJ ?_
    obtain rfl := si H
    have H := Ho4
    dsimp only at H
    exact jA y2 H [1] []
   refine tA h2 ?_
   refine tK ?_
   refine tS ?_
   refine tB ?_
   refine rA 2 ?_
   obtain ⟨v5,ev5,H⟩ := bs H
   refine iA zC.row ev5 ?_
   refine lA 2 ?_
   obtain ⟨r6,er6,H⟩ := bs H
   refine vA [.rd,.rd] (zB9 n v5 y2 r6 er6) ?_
   refine uA 1 35 0 ?_
   refine gA 2 33554467 0 ?_
   obtain ⟨h3,H⟩ | ⟨h3,H⟩ := bC H
   ·refine nA h3 ?_
    refine tK ?_
    refine eA 3 35 0 ?_
    exact jB mo4 ((IntKind.wrap .i64 (y1 + 1)),r6) H [5,1,0] []
   refine tA h3 ?_
   refine gA 1 16 0 ?_
   refine te ?_
   obtain rfl := si H
   have H := Ho4
   dsimp only at H
   exact fJ [(false,[cI (-1)])] H
  rintro y3 H
  have H : (Zz n y3) = some r := H
  unfold Zz at H
  refine gA 2 16 0 ?_
  exact te (fJ [(false,[cI y3])] H)
 refine tA h1 ?_
 refine gA 1 16 0 ?_
 exact te (fJ [(false,[cI (-1)])] H)
def Qc (n : Nat) (x0 : Pdu) (x1 : Int) : Option (Int) :=
  ((Zo n x0.Binds x1).bind fun r1 => (bif (decide (r1 < 0)) then (some (-1)) else (some r1)))
theorem zCo (n : Nat) (x0 : Pdu) (x1 : Int) (r : Int) (H : Qc n x0 x1 = some r) : zJ Try.prog 8 [.val true (CV.frzRow (Pdu.row x0)),.val false [.lit (.int .i64 x1)]] [.val false [.lit (.int .i64 r)]] [] := by
 refine cW Try.func8 (fun g d => sl [g 0,g 1,sl [g 2] (cn 10 (sl [g 3] .ret) .skip),g 4] .ret) [.tmp 4] fun cx => ?_
 unfold Qc at H
 refine gA 2 6 4 ?_
 refine rA 3 ?_
 obtain ⟨r1,er1,H⟩ := bs H
 refine vA [.rd,.rd] (zBl n x0.Binds x1 r1 er1) ?_
 refine uA 1 2 0 ?_
 refine tS ?_
 refine gA 2 1026 0 ?_
 obtain ⟨h1,H⟩ | ⟨h1,H⟩ := bC H
 ·refine nA h1 ?_
  refine tK ?_
  refine gA 2 16 0 ?_
  exact te (fJ [(false,[cI r1])] H)
 refine tA h1 ?_
 refine gA 1 16 0 ?_
 exact te (fJ [(false,[cI (-1)])] H)
def QR (n : Nat) (y4 : (List Int)) : Option ((List Int)) :=
  (some y4)
def qd (n : Nat) : Nat → (List Int) → Int → (List Int) → Option (((List Int)) ⊕ ((List Int)))
  | 0,_,_,_ => none
  | mo5 + 1,x0,y2,y3 => (bif (decide (y2 < (x0.length : Int))) then ((idx x0 y2).bind fun v6 => ((idx y3 y2).bind fun v7 => (qd n mo5 x0 (IntKind.wrap .i64 (y2 + 1)) (y3.set (y2.toNat) v6)))) else (some (Sum.inl y3)))
def ZV (n : Nat) (x0 : (List Int)) : Option ((List Int)) :=
  (bif (decide (0 ≤ (x0.length : Int)) && decide ((x0.length : Int) ≤ 268435456)) then ((qd n n x0 0 (List.replicate ((x0.length : Int)).toNat 0)).bind fun o => match o with | .inl y4 => (QR n y4) | .inr r => some r) else none)
theorem zAD (n : Nat) (x0 : (List Int)) (r : (List Int)) (H : ZV n x0 = some r) : zJ Try.prog 139 [.val false [.sl false 1 (CV.frzEs (x0.map intRow))]] [.val false [.sl true 1 (r.map intRow)]] [] := by
 refine cW Try.func139 (fun g d => sl [g 0,g 1,sl [g 2] (.block 0 (.loop (sl [sl [g 3] (cn 11 .skip (.exit 0)),.block 1 (g 5)] (g 4)))),g 6] .ret) [.tmp 2] fun cx => ?_
 unfold ZV at H
 refine gA 1 1 0 ?_
 refine rA 1 ?_
 refine kF x0 intRow ?_
 obtain ⟨hg1,H⟩ := gs H
 refine LAt.makeG tOk (t := 38) (ty := 38) (e := 3) (x := (.tmp 6)) (d := 7) (g := none) (tI 3) (x0.length : Int) ((List.replicate ((x0.length : Int)).toNat 0).map intRow) _ kr kr kr kr kr kr hg1 kr (zCa _ rfl) rfl ?_
 refine LAt.moveU (T := lk tab) (ty := 38) (x := (.tmp 7)) (d := 3) (g := none) false [cL 1 (List.replicate ((x0.length : Int)).toNat 0) intRow] kr kr kr kr kr ?_
 refine dA 9 0 ?_
 refine tS ?_
 refine gA 1 25 0 ?_
 obtain ⟨o5,eo5,Ho5⟩ := bs H
 clear H
 refine Tr.mid (ι := (List Int)) (fun v => ⟨22,0,[sC 3 (cL 1 v intRow)],[]⟩) (fun v => QR n v = some r) ?_ ?_
 ·refine tB ?_
  refine Tr.loop (ι := Nat × (Int × (List Int))) (fun v => ⟨22,0,[sI 4 v.2.1,sC 3 (cL 1 v.2.2 intRow),sC 0 (cF 1 x0 intRow)],[]⟩) (fun v => qd n v.1 x0 v.2.1 v.2.2 = some o5) (fun v => v.1) (n,(0,(List.replicate ((x0.length : Int)).toNat 0))) eo5 (St.sub_of [4,3,0] [] kr) ?_
  rintro ⟨mo5,y2,y3⟩ H
  have H : qd n mo5 x0 y2 y3 = some o5 := H
  obtain _ | mo5 := mo5
  ·exact nN H
  rw [qd] at H
  refine tS ?_
  refine rA 2 ?_
  refine kF x0 intRow ?_
  refine uA 1 2073 0 ?_
  obtain ⟨h1,H⟩ | ⟨h1,H⟩ := bC H
  ·refine nA h1 ?_
   refine Tr.exit ?_
   refine aJ ?_
   obtain rfl := si H
   have H := Ho5
   dsimp only at H
   exact jA y3 H [3] []
  refine tA h1 ?_
  refine tK ?_
  refine tS ?_
  refine tB ?_
  refine Tr.at ?_
  refine lA 4 ?_
  obtain ⟨v6,ev6,H⟩ := bs H
  refine iA intRow ev6 ?_
  refine lA 1 ?_
  obtain ⟨v7,ev7,H⟩ := bs H
  refine oA intRow ev7 ?_
  refine sS (tI 3) false [cI v6] 3 0 (y2.toNat) 1 0 1 intRow v6 (zCU ev7).2 ?_
  refine dA 25 0 ?_
  refine eA 3 25 0 ?_
  exact jB mo5 ((IntKind.wrap .i64 (y2 + 1)),(y3.set (y2.toNat) v6)) H [4,3,0] []
 rintro y4 H
 have H : (QR n y4) = some r := H
 unfold QR at H
 refine gA 2 12 0 ?_
 exact te (fJ [(false,[cL 1 y4 intRow])] H)
def YE (n : Nat) (x0 : Val) : Option (Val) :=
  ((ZV n x0.O).bind fun r1 => (some (⟨x0.K,x0.N,x0.S,r1⟩ : Val)))
theorem zCq (n : Nat) (x0 : Val) (r : Val) (H : YE n x0 = some r) : zJ Try.prog 140 [.val true (CV.frzRow (Val.row x0))] [.val true (Val.row r)] [] := by
 refine cW Try.func140 (fun g d => sl [g 0,g 1,g 2,g 3,g 4,g 5,g 6] .ret) [.cell 2 66] fun cx => ?_
 unfold YE at H
 refine gA 2 6 6 ?_
 refine gA 1 14 14 ?_
 refine gA 4 14 14 ?_
 refine gA 4 14 14 ?_
 refine gA 4 14 14 ?_
 refine rA 2 ?_
 obtain ⟨r1,er1,H⟩ := bs H
 refine vA [.rd] (zAD n x0.O r1 er1) ?_
 refine uA 2 12 12 ?_
 refine gA 2 4 4 ?_
 exact te (fJ [(true,[cI x0.K,cI x0.N,cS x0.S,cL 1 r1 intRow])] H)
def ZU (n : Nat) (x0 : zC) : Option (zC) :=
  ((ZV n x0.O).bind fun r1 => ((YE n x0.V).bind fun r2 => (some (⟨r1,r2⟩ : zC))))
theorem zCA (n : Nat) (x0 : zC) (r : zC) (H : ZU n x0 = some r) : zJ Try.prog 86 [.val true (CV.frzRow (zC.row x0))] [.val true (zC.row r)] [] := by
 refine cW Try.func86 (fun g d => sl [g 0,g 1,g 2,g 3,g 4] .ret) [.cell 2 68] fun cx => ?_
 unfold ZU at H
 refine gA 2 6 6 ?_
 refine gA 1 14 14 ?_
 refine rA 2 ?_
 obtain ⟨r1,er1,H⟩ := bs H
 refine vA [.rd] (zAD n x0.O r1 er1) ?_
 refine uA 2 14 14 ?_
 refine rA 2 ?_
 obtain ⟨r2,er2,H⟩ := bs H
 refine vA [.rd] (zCq n x0.V r2 er2) ?_
 refine uA 2 12 12 ?_
 refine gA 2 4 4 ?_
 exact te (fJ [(true,[cL 1 r1 intRow,cI r2.K,cI r2.N,cS r2.S,cL 1 r2.O intRow])] H)
def Z3 (n : Nat) (y4 : (List zC)) : Option ((List zC)) :=
  (some y4)
def qT (n : Nat) : Nat → (List zC) → Int → (List zC) → Option (((List zC)) ⊕ ((List zC)))
  | 0,_,_,_ => none
  | mo5 + 1,x0,y2,y3 => (bif (decide (y2 < (x0.length : Int))) then ((idx x0 y2).bind fun v6 => ((ZU n v6).bind fun r7 => ((idx y3 y2).bind fun v8 => (qT n mo5 x0 (IntKind.wrap .i64 (y2 + 1)) (y3.set (y2.toNat) r7))))) else (some (Sum.inl y3)))
def Qn (n : Nat) (x0 : (List zC)) : Option ((List zC)) :=
  (bif (decide (0 ≤ (x0.length : Int)) && decide ((x0.length : Int) ≤ 268435456)) then ((qT n n x0 0 (List.replicate ((x0.length : Int)).toNat (⟨([] : List Int),(⟨0,0,(⟨#[]⟩ : ByteArray),([] : List Int)⟩ : Val)⟩ : zC))).bind fun o => match o with | .inl y4 => (Z3 n y4) | .inr r => some r) else none)
theorem zBm (n : Nat) (x0 : (List zC)) (r : (List zC)) (H : Qn n x0 = some r) : zJ Try.prog 43 [.val false [.sl false 5 (CV.frzEs (x0.map zC.row))]] [.val false [.sl true 5 (r.map zC.row)]] [] := by
 refine cW Try.func43 (fun g d => sl [g 0,g 1,sl [g 2] (.block 0 (.loop (sl [sl [g 3] (cn 11 .skip (.exit 0)),.block 1 (g 5)] (g 4)))),g 6] .ret) [.tmp 2] fun cx => ?_
 unfold Qn at H
 refine gA 1 1 0 ?_
 refine rA 1 ?_
 refine kF x0 zC.row ?_
 obtain ⟨hg1,H⟩ := gs H
 refine LAt.makeG tOk (t := 27) (ty := 27) (e := 68) (x := (.tmp 6)) (d := 7) (g := none) (tI 68) (x0.length : Int) ((List.replicate ((x0.length : Int)).toNat (⟨([] : List Int),(⟨0,0,(⟨#[]⟩ : ByteArray),([] : List Int)⟩ : Val)⟩ : zC)).map zC.row) _ kr kr kr kr kr kr hg1 kr (zCa _ rfl) rfl ?_
 refine LAt.moveU (T := lk tab) (ty := 27) (x := (.tmp 7)) (d := 3) (g := none) false [cL 5 (List.replicate ((x0.length : Int)).toNat (⟨([] : List Int),(⟨0,0,(⟨#[]⟩ : ByteArray),([] : List Int)⟩ : Val)⟩ : zC)) zC.row] kr kr kr kr kr ?_
 refine dA 9 0 ?_
 refine tS ?_
 refine gA 1 25 0 ?_
 obtain ⟨o5,eo5,Ho5⟩ := bs H
 clear H
 refine Tr.mid (ι := (List zC)) (fun v => ⟨23,0,[sC 3 (cL 5 v zC.row)],[]⟩) (fun v => Z3 n v = some r) ?_ ?_
 ·refine tB ?_
  refine Tr.loop (ι := Nat × (Int × (List zC))) (fun v => ⟨23,0,[sI 4 v.2.1,sC 3 (cL 5 v.2.2 zC.row),sC 0 (cF 5 x0 zC.row)],[]⟩) (fun v => qT n v.1 x0 v.2.1 v.2.2 = some o5) (fun v => v.1) (n,(0,(List.replicate ((x0.length : Int)).toNat (⟨([] : List Int),(⟨0,0,(⟨#[]⟩ : ByteArray),([] : List Int)⟩ : Val)⟩ : zC)))) eo5 (St.sub_of [4,3,0] [] kr) ?_
  rintro ⟨mo5,y2,y3⟩ H
  have H : qT n mo5 x0 y2 y3 = some o5 := H
  obtain _ | mo5 := mo5
  ·exact nN H
  rw [qT] at H
  refine tS ?_
  refine rA 2 ?_
  refine kF x0 zC.row ?_
  refine uA 1 2073 0 ?_
  obtain ⟨h1,H⟩ | ⟨h1,H⟩ := bC H
  ·refine nA h1 ?_
   refine Tr.exit ?_
   refine aJ ?_
   obtain rfl := si H
   have H := Ho5
   dsimp only at H
   exact jA y3 H [3] []
  refine tA h1 ?_
  refine tK ?_
  refine tS ?_
  refine tB ?_
  refine Tr.at ?_
  refine lA 4 ?_
  obtain ⟨v6,ev6,H⟩ := bs H
  refine iA zC.row ev6 ?_
  refine lA 1 ?_
  obtain ⟨r7,er7,H⟩ := bs H
  refine vA [.rd] (zCA n v6 r7 er7) ?_
  obtain ⟨v8,ev8,H⟩ := bs H
  refine oA zC.row ev8 ?_
  refine sS (tI 68) true (zC.row r7) 3 0 (y2.toNat) 5 0 5 zC.row r7 (zCU ev8).2 ?_
  refine dA 25 0 ?_
  refine eA 3 25 0 ?_
  exact jB mo5 ((IntKind.wrap .i64 (y2 + 1)),(y3.set (y2.toNat) r7)) H [4,3,0] []
 rintro y4 H
 have H : (Z3 n y4) = some r := H
 unfold Z3 at H
 refine gA 2 12 0 ?_
 exact te (fJ [(false,[cL 5 y4 zC.row])] H)
def ZG (n : Nat) (x0 : Pdu) : Option (Pdu) :=
  ((Qn n x0.Binds).bind fun r1 => (some (⟨x0.Ki,x0.Id,x0.A,x0.B,r1⟩ : Pdu)))
theorem JN (n : Nat) (x0 : Pdu) (r : Pdu) (H : ZG n x0 = some r) : zJ Try.prog 10 [.val true (CV.frzRow (Pdu.row x0))] [.val true (Pdu.row r)] [] := by
 refine cW Try.func10 (fun g d => sl [g 0,g 1,g 2,g 3,g 4,g 5,g 6,g 7] .ret) [.cell 2 29] fun cx => ?_
 unfold ZG at H
 refine gA 2 6 6 ?_
 refine gA 1 14 14 ?_
 refine gA 4 14 14 ?_
 refine gA 4 14 14 ?_
 refine gA 4 14 14 ?_
 refine gA 4 14 14 ?_
 refine rA 2 ?_
 obtain ⟨r1,er1,H⟩ := bs H
 refine vA [.rd] (zBm n x0.Binds r1 er1) ?_
 refine uA 2 12 12 ?_
 refine gA 2 4 4 ?_
 exact te (fJ [(true,[cI x0.Ki,cI x0.Id,cI x0.A,cI x0.B,cL 5 r1 zC.row])] H)
def qW (n : Nat) (x0 : Int) (x1 : Int) (x2 : Int) : Option (Bool) :=
  (bif (decide (x0 ≥ x1)) then (some (decide (x0 ≤ x2))) else (some false))
theorem ZD (n : Nat) (x0 : Int) (x1 : Int) (x2 : Int) (r : Bool) (H : qW n x0 x1 x2 = some r) : zJ Try.prog 41 [.val false [.lit (.int .i64 x0)],.val false [.lit (.int .i64 x1)],.val false [.lit (.int .i64 x2)]] [.val false [.lit (.bool r)]] [] := by
 refine cW Try.func41 (fun g d => sl [g 0,g 1] .ret) [.tmp 6] fun cx => ?_
 unfold qW at H
 refine gA 1 7 0 ?_
 refine rA 4 ?_
 refine sL 1029 0 ⟨15,0,[sB 10 (decide (x0 ≥ x1)),sI 0 x0,sI 2 x2],[]⟩ ?_
 cases h1 : (decide (x0 ≥ x1))
 ·have H := zX h1 H
  refine uA 5 64 0 ?_
  exact te (fF H)
 have H := zY h1 H
 refine uA 5 64 0 ?_
 exact te (fJ [(false,[cB (decide (x0 ≤ x2))])] H)
def Zp (n : Nat) (x0 : (List Int)) : Option (Bool) :=
  ((qW n (x0.length : Int) 1 10).bind fun r2 => (some r2))
def zk (n : Nat) : Nat → (List Int) → Int → Option ((Unit) ⊕ (Bool))
  | 0,_,_ => none
  | mo3 + 1,x0,y1 => (bif (decide (y1 < (x0.length : Int))) then ((idx x0 y1).bind fun v4 => ((qW n v4 0 100000).bind fun r5 => (bif (!r5) then (some (Sum.inr false)) else (zk n mo3 x0 (IntKind.wrap .i64 (y1 + 1)))))) else (some (Sum.inl ())))
def zh (n : Nat) (x0 : (List Int)) : Option (Bool) :=
  ((zk n n x0 0).bind fun o => match o with | .inl _ => (Zp n x0) | .inr r => some r)
theorem JW (n : Nat) (x0 : (List Int)) (r : Bool) (H : zh n x0 = some r) : zJ Try.prog 133 [.val false [.sl false 1 (CV.frzEs (x0.map intRow))]] [.val false [.lit (.bool r)]] [] := by
 refine cW Try.func133 (fun g d => sl [g 0,sl [g 1] (.block 0 (.loop (sl [sl [g 2] (cn 7 .skip (.exit 0)),.block 1 (sl [g 4] (cn 15 (sl [g 5] .ret) .skip))] (g 3)))),g 6] .ret) [.tmp 2] fun cx => ?_
 unfold zh at H
 refine gA 1 1 0 ?_
 refine tS ?_
 refine gA 1 9 0 ?_
 obtain ⟨o3,eo3,Ho3⟩ := bs H
 clear H
 refine Tr.mid (ι := Unit) (fun v => ⟨19,0,[sC 0 (cF 1 x0 intRow)],[]⟩) (fun v => Zp n x0 = some r) ?_ ?_
 ·refine tB ?_
  refine Tr.loop (ι := Nat × (Int)) (fun v => ⟨19,0,[sI 3 v.2,sC 0 (cF 1 x0 intRow)],[]⟩) (fun v => zk n v.1 x0 v.2 = some o3) (fun v => v.1) (n,0) eo3 (St.sub_of [3,0] [] kr) ?_
  rintro ⟨mo3,y1⟩ H
  have H : zk n mo3 x0 y1 = some o3 := H
  obtain _ | mo3 := mo3
  ·exact nN H
  rw [zk] at H
  refine tS ?_
  refine rA 2 ?_
  refine kF x0 intRow ?_
  refine uA 1 137 0 ?_
  obtain ⟨h1,H⟩ | ⟨h1,H⟩ := bC H
  ·refine nA h1 ?_
   refine Tr.exit ?_
   refine aJ ?_
   obtain rfl := si H
   have H := Ho3
   dsimp only at H
   exact jA () H [0] []
  refine tA h1 ?_
  refine tK ?_
  refine tS ?_
  refine tB ?_
  refine rA 2 ?_
  obtain ⟨v4,ev4,H⟩ := bs H
  refine iA intRow ev4 ?_
  refine lA 1 ?_
  obtain ⟨r5,er5,H⟩ := bs H
  refine vA [.rd,.rd,.rd] (ZD n v4 0 100000 r5 er5) ?_
  refine uA 1 32777 0 ?_
  obtain ⟨h2,H⟩ | ⟨h2,H⟩ := bC H
  ·refine nA h2 ?_
   refine tK ?_
   refine eA 3 9 0 ?_
   exact jB mo3 (IntKind.wrap .i64 (y1 + 1)) H [3,0] []
  refine tA h2 ?_
  refine gA 1 4 0 ?_
  refine te ?_
  obtain rfl := si H
  have H := Ho3
  dsimp only at H
  exact fF H
 rintro _ H
 have H : (Zp n x0) = some r := H
 unfold Zp at H
 refine rA 1 ?_
 refine kF x0 intRow ?_
 obtain ⟨r2,er2,H⟩ := bs H
 refine vA [.rd,.rd,.rd] (ZD n (x0.length : Int) 1 10 r2 er2) ?_
 refine uA 1 4 0 ?_
 exact te (fJ [(false,[cB r2])] H)
def z6 (n : Nat) (x0 : Int) : Option (Int) :=
  (bif (decide (x0 > 2147483647)) then (some 2147483647) else (bif (decide (x0 < (-2147483648))) then (some (-2147483648)) else (some x0)))
theorem qv (n : Nat) (x0 : Int) (r : Int) (H : z6 n x0 = some r) : zJ Try.prog 136 [.val false [.lit (.int .i64 x0)]] [.val false [.lit (.int .i64 r)]] [] := by
 refine cW Try.func136 (fun g d => sl [g 0,sl [g 1] (cn 4 (sl [g 2] .ret) .skip),sl [g 3] (cn 6 (sl [g 4] .ret) .skip),g 5] .ret) [.tmp 2] fun cx => ?_
 unfold z6 at H
 refine gA 1 1 0 ?_
 refine tS ?_
 refine gA 2 17 0 ?_
 obtain ⟨h1,H⟩ | ⟨h1,H⟩ := bC H
 ·refine nA h1 ?_
  refine tK ?_
  refine tS ?_
  refine gA 2 65 0 ?_
  obtain ⟨h2,H⟩ | ⟨h2,H⟩ := bC H
  ·refine nA h2 ?_
   refine tK ?_
   refine gA 2 4 0 ?_
   exact te (fJ [(false,[cI x0])] H)
  refine tA h2 ?_
  refine gA 1 4 0 ?_
  exact te (fJ [(false,[cI (-2147483648)])] H)
 refine tA h1 ?_
 refine gA 1 4 0 ?_
 exact te (fJ [(false,[cI 2147483647])] H)
def qa (n : Nat) (x0 : Val) (y1 : Bool) : Option (Bool) :=
  (bif y1 then (bif (x0.N == 0) then (bif (x0.S.toList == (⟨#[]⟩ : ByteArray).toList) then (some ((x0.O.length : Int) == 0)) else (some false)) else (some false)) else (bif (x0.K == 2) then ((z6 n x0.N).bind fun r3 => (bif (r3 == x0.N) then (bif (x0.S.toList == (⟨#[]⟩ : ByteArray).toList) then (some ((x0.O.length : Int) == 0)) else (some false)) else (some false))) else (bif (x0.K == 4) then (bif (decide ((x0.S.size : Int) ≤ 20)) then (bif (x0.N == 0) then (some ((x0.O.length : Int) == 0)) else (some false)) else (some false)) else (bif (x0.K == 6) then ((zh n x0.O).bind fun r2 => (bif r2 then (bif (x0.N == 0) then (some (x0.S.toList == (⟨#[]⟩ : ByteArray).toList)) else (some false)) else (some false))) else (some false)))))
def z7 (n : Nat) (x0 : Val) : Option (Bool) :=
  (bif (x0.K == 5) then (qa n x0 true) else (bif (x0.K == 128) then (qa n x0 true) else (qa n x0 (x0.K == 130))))
def zD5 : Tab := ⟨18,[0,1,2,0,8,20,36,64,192,320,576,1088,2048,6144,10240,18432,34816,131071],[0,1,2,0,8,20,32,64,192,320,576,1024,2048,6144,10240,18432,34816,65536],[0,1,3,0,8,31,63,127,255,511,1023,2047,4095,8191,16383,32767,65535,131071]⟩
theorem qR : zp (rg Try.f134 7) zD5 = true := kr
theorem zAu (n : Nat) (x0 : Val) (r : Bool) (H : z7 n x0 = some r) : zJ Try.prog 134 [.val true (CV.frzRow (Val.row x0))] [.val false [.lit (.bool r)]] [] := by
 refine cW Try.func134 (fun g d => sl [g 0,sl [g 1] (.block 0 (sl [sl [g 2] (cn 5 .skip (sl [g 3] (cn 5 .skip (g 4))))] (cn 5 (sl [g 5] .ret) (sl [g 6] (cn 23 (sl [d 7] .ret) (sl [g 8] (cn 42 (sl [g 9] .ret) (sl [g 10] (cn 59 (sl [g 11] .ret) .skip))))))))),g 12] .ret) [.tmp 2] fun cx => ?_
 unfold z7 at H
 refine gA 2 2 2 ?_
 refine tS ?_
 refine gA 2 18 2 ?_
 refine tB ?_
 refine tS ?_
 refine Tr.mid (ι := Bool) (fun v => ⟨74,0,[sB 5 v,sI 4 x0.K,sA 1 1 4 0],[(1,(CV.frzRow (Val.row x0)))]⟩) (fun v => qa n x0 v = some r) ?_ ?_
 ·refine gA 2 50 2 ?_
  refine sT ⟨74,0,[sB 5 (x0.K == 5),sI 4 x0.K,sA 1 1 4 0],[(1,(CV.frzRow (Val.row x0)))]⟩ ?_
  cases h13 : (x0.K == 5)
  ·have H := zX h13 H
   refine nB_ ?_
   refine gA 2 50 2 ?_
   refine sT ⟨74,0,[sB 5 (x0.K == 128),sI 4 x0.K,sA 1 1 4 0],[(1,(CV.frzRow (Val.row x0)))]⟩ ?_
   cases h14 : (x0.K == 128)
   ·have H := zX h14 H
    refine nB_ ?_
    refine eA 2 50 2 ?_
    exact jA (x0.K == 130) H [5,4,1] [1]
   have H := zY h14 H
   refine tB_ ?_
   refine tK ?_
   exact jA true H [5,4,1] [1]
  have H := zY h13 H
  refine tB_ ?_
  refine tK ?_
  exact jA true H [5,4,1] [1]
 rintro y1 H
 have H : (qa n x0 y1) = some r := H
 unfold qa at H
 cases h1 : y1
 ·have H := zX h1 H
  refine nB_ ?_
  refine gA 2 8388626 2 ?_
  obtain ⟨h2,H⟩ | ⟨h2,H⟩ := bC H
  ·refine nA h2 ?_
   refine gA 2 4398046511122 2 ?_
   obtain ⟨h3,H⟩ | ⟨h3,H⟩ := bC H
   ·refine nA h3 ?_
    refine gA 2 0x800000000000002 2 ?_
    obtain ⟨h4,H⟩ | ⟨h4,H⟩ := bC H
    ·refine nA h4 ?_
     refine tK ?_
     refine gA 1 4 0 ?_
     exact te (fF H)
    refine tA h4 ?_
    refine rA 2 ?_
    obtain ⟨r2,er2,H⟩ := bs H
    refine vA [.rd] (JW n x0.O r2 er2) ?_
    refine lA 1 ?_
    refine sL 0x10000000000000002 2 ⟨74,0,[sB 64 r2,sA 1 1 4 0],[(1,(CV.frzRow (Val.row x0)))]⟩ ?_
    cases h5 : r2
    ·have H := zX h5 H
     refine uA 10 4 0 ?_
     exact te (fF H)
    have H := zY h5 H
    refine lA 5 ?_
    refine sL 0x200000000000000002 2 ⟨74,0,[sB 69 (x0.N == 0),sA 1 1 4 0],[(1,(CV.frzRow (Val.row x0)))]⟩ ?_
    cases h6 : (x0.N == 0)
    ·have H := zX h6 H
     refine uA 5 4 0 ?_
     exact te (fF H)
    have H := zY h6 H
    refine uA 5 4 0 ?_
    exact te (fJ [(false,[cB (x0.S.toList == (⟨#[]⟩ : ByteArray).toList)])] H)
   refine tA h3 ?_
   refine rA 5 ?_
   refine sL 281474976710658 2 ⟨74,0,[sB 48 (decide ((x0.S.size : Int) ≤ 20)),sA 1 1 4 0],[(1,(CV.frzRow (Val.row x0)))]⟩ ?_
   cases h7 : (decide ((x0.S.size : Int) ≤ 20))
   ·have H := zX h7 H
    refine uA 11 4 0 ?_
    exact te (fF H)
   have H := zY h7 H
   refine lA 5 ?_
   refine sL 9007199254740994 2 ⟨74,0,[sB 53 (x0.N == 0),sA 1 1 4 0],[(1,(CV.frzRow (Val.row x0)))]⟩ ?_
   cases h8 : (x0.N == 0)
   ·have H := zX h8 H
    refine uA 6 4 0 ?_
    exact te (fF H)
   have H := zY h8 H
   refine lA 2 ?_
   refine kF x0.O intRow ?_
   refine uA 3 4 0 ?_
   exact te (fJ [(false,[cB ((x0.O.length : Int) == 0)])] H)
  refine tA h2 ?_
  obtain ⟨r3,er3,H⟩ := bs H
  refine sT ⟨74,0,[sB 23 (x0.K == 2),sI 4 x0.K,sA 1 1 4 0],[(1,(CV.frzRow (Val.row x0)))]⟩ ?_
  cases h9 : (r3 == x0.N)
  ·have H := zX h9 H
   refine Tr.draws mixed 18 kr ⟨74,0,[sB 2 false],[]⟩ (fun cx => ?_) ?_
   ·refine mA qR [(0,[]),(1,[2]),(3,[]),(4,[])] 14 [⟨[],3,28,29⟩,⟨[2],3,25,26⟩] fun cx => ?_
    refine mC qR 2 ?_
    refine vA [.rd] (qv n x0.N r3 er3) ?_
    refine fA ?_
    refine mA qR [(5,[]),(6,[])] 11 [⟨[],3,28,29⟩,⟨[2],3,25,26⟩] fun cx => ?_
    refine sA_ 3053453314 2 ⟨74,0,[sB 31 (r3 == x0.N),sI 29 x0.N,sA 28 1 4 1,sI 26 x0.N,sA 25 1 4 1,sA 1 1 4 0],[(1,(CV.frzRow (Val.row x0)))]⟩ ?_
    rw [h9]
    refine mA qR [(7,[]),(8,[]),(9,[]),(10,[]),(11,[]),(12,[]),(13,[]),(14,[]),(15,[]),(16,[]),(17,[])] 0 [⟨[],3,28,29⟩,⟨[2],3,25,26⟩] fun cx => ?_
    exact mE qR [2] []
   exact te (fF H)
  have H := zY h9 H
  refine sT ⟨74,0,[sB 23 (x0.K == 2),sI 4 x0.K,sA 1 1 4 0],[(1,(CV.frzRow (Val.row x0)))]⟩ ?_
  cases h10 : (x0.S.toList == (⟨#[]⟩ : ByteArray).toList)
  ·have H := zX h10 H
   refine Tr.draws mixed 18 kr ⟨74,0,[sB 2 false],[]⟩ (fun cx => ?_) ?_
   ·refine mA qR [(0,[]),(1,[2]),(3,[]),(4,[])] 14 [⟨[],3,28,29⟩,⟨[2],3,25,26⟩] fun cx => ?_
    refine mC qR 2 ?_
    refine vA [.rd] (qv n x0.N r3 er3) ?_
    refine fA ?_
    refine mA qR [(5,[]),(6,[])] 11 [⟨[],3,28,29⟩,⟨[2],3,25,26⟩] fun cx => ?_
    refine sA_ 3053453314 2 ⟨74,0,[sB 31 (r3 == x0.N),sI 29 x0.N,sA 28 1 4 1,sI 26 x0.N,sA 25 1 4 1,sA 1 1 4 0],[(1,(CV.frzRow (Val.row x0)))]⟩ ?_
    rw [h9]
    refine mA qR [(7,[]),(8,[]),(9,[]),(10,[]),(11,[])] 6 [⟨[],9,32,33⟩,⟨[],3,28,29⟩,⟨[2],3,25,26⟩] fun cx => ?_
    refine sA_ 82510348290 2 ⟨74,0,[sB 36 (x0.S.toList == (⟨#[]⟩ : ByteArray).toList),sC 33 (cS x0.S),sA 32 1 4 2,sI 29 x0.N,sA 28 1 4 1,sI 26 x0.N,sA 25 1 4 1,sA 1 1 4 0],[(1,(CV.frzRow (Val.row x0)))]⟩ ?_
    rw [h10]
    refine mA qR [(12,[]),(13,[]),(14,[]),(15,[]),(16,[]),(17,[])] 0 [⟨[],9,32,33⟩,⟨[],3,28,29⟩,⟨[2],3,25,26⟩] fun cx => ?_
    exact mE qR [2] []
   exact te (fF H)
  have H := zY h10 H
  refine Tr.draws mixed 18 kr ⟨74,0,[sB 2 ((x0.O.length : Int) == 0)],[]⟩ (fun cx => ?_) ?_
  ·refine mA qR [(0,[]),(1,[2]),(3,[]),(4,[])] 14 [⟨[],3,28,29⟩,⟨[2],3,25,26⟩] fun cx => ?_
   refine mC qR 2 ?_
   refine vA [.rd] (qv n x0.N r3 er3) ?_
   refine fA ?_
   refine mA qR [(5,[]),(6,[])] 11 [⟨[],3,28,29⟩,⟨[2],3,25,26⟩] fun cx => ?_
   refine sA_ 3053453314 2 ⟨74,0,[sB 31 (r3 == x0.N),sI 29 x0.N,sA 28 1 4 1,sI 26 x0.N,sA 25 1 4 1,sA 1 1 4 0],[(1,(CV.frzRow (Val.row x0)))]⟩ ?_
   rw [h9]
   refine mA qR [(7,[]),(8,[]),(9,[]),(10,[]),(11,[])] 6 [⟨[],9,32,33⟩,⟨[],3,28,29⟩,⟨[2],3,25,26⟩] fun cx => ?_
   refine sA_ 82510348290 2 ⟨74,0,[sB 36 (x0.S.toList == (⟨#[]⟩ : ByteArray).toList),sC 33 (cS x0.S),sA 32 1 4 2,sI 29 x0.N,sA 28 1 4 1,sI 26 x0.N,sA 25 1 4 1,sA 1 1 4 0],[(1,(CV.frzRow (Val.row x0)))]⟩ ?_
   rw [h10]
   refine mA qR [(12,[]),(13,[])] 4 [⟨[],38,37,38⟩,⟨[],9,32,33⟩,⟨[],3,28,29⟩,⟨[2],3,25,26⟩] fun cx => ?_
   refine kFN qR 14 x0.O intRow fun cx => ?_
   refine mA qR [(15,[]),(16,[]),(17,[])] 0 [⟨[],38,37,38⟩,⟨[],9,32,33⟩,⟨[],3,28,29⟩,⟨[2],3,25,26⟩] fun cx => ?_
   exact mE qR [2] []
  exact te (fJ [(false,[cB ((x0.O.length : Int) == 0)])] H)
 have H := zY h1 H
 refine tB_ ?_
 refine rA 4 ?_
 refine sL 4098 2 ⟨74,0,[sB 12 (x0.N == 0),sA 1 1 4 0],[(1,(CV.frzRow (Val.row x0)))]⟩ ?_
 cases h11 : (x0.N == 0)
 ·have H := zX h11 H
  refine uA 11 4 0 ?_
  exact te (fF H)
 have H := zY h11 H
 refine lA 5 ?_
 refine sL 131074 2 ⟨74,0,[sB 17 (x0.S.toList == (⟨#[]⟩ : ByteArray).toList),sA 1 1 4 0],[(1,(CV.frzRow (Val.row x0)))]⟩ ?_
 cases h12 : (x0.S.toList == (⟨#[]⟩ : ByteArray).toList)
 ·have H := zX h12 H
  refine uA 6 4 0 ?_
  exact te (fF H)
 have H := zY h12 H
 refine lA 2 ?_
 refine kF x0.O intRow ?_
 refine uA 3 4 0 ?_
 exact te (fJ [(false,[cB ((x0.O.length : Int) == 0)])] H)
def Q6 (n : Nat) (x0 : Int) : Option (Bool) :=
  (bif (x0 == 160) then (some true) else (bif (x0 == 161) then (some true) else (bif (x0 == 162) then (some true) else (bif (x0 == 163) then (some true) else (some (x0 == 165))))))
theorem Qg (n : Nat) (x0 : Int) (r : Bool) (H : Q6 n x0 = some r) : zJ Try.prog 135 [.val false [.lit (.int .i64 x0)]] [.val false [.lit (.bool r)]] [] := by
 refine cW Try.func135 (fun g d => sl [g 0,g 1] .ret) [.tmp 2] fun cx => ?_
 unfold Q6 at H
 refine gA 1 1 0 ?_
 refine rA 3 ?_
 refine sL 33 0 ⟨21,0,[sB 5 (x0 == 160),sI 0 x0],[]⟩ ?_
 cases h1 : (x0 == 160)
 ·have H := zX h1 H
  refine lA 4 ?_
  refine sL 513 0 ⟨21,0,[sB 9 (x0 == 161),sI 0 x0],[]⟩ ?_
  cases h2 : (x0 == 161)
  ·have H := zX h2 H
   refine lA 4 ?_
   refine sL 8193 0 ⟨21,0,[sB 13 (x0 == 162),sI 0 x0],[]⟩ ?_
   cases h3 : (x0 == 162)
   ·have H := zX h3 H
    refine lA 4 ?_
    refine sL 131073 0 ⟨21,0,[sB 17 (x0 == 163),sI 0 x0],[]⟩ ?_
    cases h4 : (x0 == 163)
    ·have H := zX h4 H
     refine uA 4 4 0 ?_
     exact te (fJ [(false,[cB (x0 == 165)])] H)
    have H := zY h4 H
    refine uA 4 4 0 ?_
    exact te (fT H)
   have H := zY h3 H
   refine uA 8 4 0 ?_
   exact te (fT H)
  have H := zY h2 H
  refine uA 12 4 0 ?_
  exact te (fT H)
 have H := zY h1 H
 refine uA 16 4 0 ?_
 exact te (fT H)
def qq (n : Nat) (x0 : Pdu) : Option (Bool) :=
  ((Q6 n x0.Ki).bind fun r2 => (bif r2 then ((z6 n x0.Id).bind fun r3 => (bif (r3 == x0.Id) then ((qW n x0.A 0 1000).bind fun r4 => (bif r4 then ((qW n x0.B 0 1000).bind fun r5 => (bif r5 then (some (decide ((x0.Binds.length : Int) ≤ 10))) else (some false))) else (some false))) else (some false))) else (some false)))
def Zq (n : Nat) (x0 : Pdu) : Option (Bool) :=
  (bif (x0.Ki != 162) then (bif (x0.Ki != 165) then (bif (x0.A != 0) then (some false) else (bif (x0.B != 0) then (some false) else (qq n x0))) else (qq n x0)) else (qq n x0))
def zy (n : Nat) : Nat → Pdu → Int → Option ((Unit) ⊕ (Bool))
  | 0,_,_ => none
  | mo6 + 1,x0,y1 => (bif (decide (y1 < (x0.Binds.length : Int))) then ((idx x0.Binds y1).bind fun v7 => ((zh n v7.O).bind fun r8 => (bif (!r8) then (some (Sum.inr false)) else ((idx x0.Binds y1).bind fun v9 => ((z7 n v9.V).bind fun r10 => (bif (!r10) then (some (Sum.inr false)) else (zy n mo6 x0 (IntKind.wrap .i64 (y1 + 1))))))))) else (some (Sum.inl ())))
def Qf (n : Nat) (x0 : Pdu) : Option (Bool) :=
  ((zy n n x0 0).bind fun o => match o with | .inl _ => (Zq n x0) | .inr r => some r)
def zEK : Tab := ⟨28,[0,1,2,4,8,24,40,8,136,328,520,1088,2048,6144,10240,18432,49152,65536,196608,327680,589824,1572864,2097152,6291456,10485760,18874368,35651584,134217727],[0,1,2,4,8,24,40,8,136,328,520,1024,2048,6144,10240,18432,32768,65536,196608,327680,589824,1048576,2097152,6291456,10485760,18874368,35651584,67108864],[0,1,3,7,15,31,63,15,143,511,1023,2047,4095,8191,16383,32767,65535,131071,262143,524287,1048575,2097151,4194303,8388607,16777215,33554431,67108863,134217727]⟩
theorem zP : zp (rg Try.f83 8) zEK = true := kr
theorem zC0 (n : Nat) (x0 : Pdu) (r : Bool) (H : Qf n x0 = some r) : zJ Try.prog 83 [.val true (CV.frzRow (Pdu.row x0))] [.val false [.lit (.bool r)]] [] := by
 refine cW Try.func83 (fun g d => sl [g 0,sl [g 1] (.block 0 (.loop (sl [sl [g 2] (cn 8 .skip (.exit 0)),.block 1 (sl [g 4] (cn 28 (sl [g 5] .ret) .skip))] (g 3)))),sl [g 6] (cn 46 (sl [g 7] .ret) .skip),d 8] .ret) [.tmp 2] fun cx => ?_
 unfold Qf at H
 refine gA 2 2 2 ?_
 refine tS ?_
 refine gA 1 10 2 ?_
 obtain ⟨o6,eo6,Ho6⟩ := bs H
 clear H
 refine Tr.mid (ι := Unit) (fun v => ⟨74,0,[sA 1 1 5 0],[(1,(CV.frzRow (Pdu.row x0)))]⟩) (fun v => Zq n x0 = some r) ?_ ?_
 ·refine tB ?_
  refine Tr.loop (ι := Nat × (Int)) (fun v => ⟨74,0,[sI 3 v.2,sA 1 1 5 0],[(1,(CV.frzRow (Pdu.row x0)))]⟩) (fun v => zy n v.1 x0 v.2 = some o6) (fun v => v.1) (n,0) eo6 (St.sub_of [3,1] [1] kr) ?_
  rintro ⟨mo6,y1⟩ H
  have H : zy n mo6 x0 y1 = some o6 := H
  obtain _ | mo6 := mo6
  ·exact nN H
  rw [zy] at H
  refine tS ?_
  refine rA 3 ?_
  refine kF x0.Binds zC.row ?_
  refine uA 1 266 2 ?_
  obtain ⟨h9,H⟩ | ⟨h9,H⟩ := bC H
  ·refine nA h9 ?_
   refine Tr.exit ?_
   refine aJ ?_
   obtain rfl := si H
   have H := Ho6
   dsimp only at H
   exact jA () H [1] [1]
  refine tA h9 ?_
  refine tK ?_
  refine tS ?_
  refine tB ?_
  refine rA 3 ?_
  obtain ⟨v7,ev7,H⟩ := bs H
  refine iA zC.row ev7 ?_
  refine lA 2 ?_
  obtain ⟨r8,er8,H⟩ := bs H
  refine vA [.rd] (JW n v7.O r8 er8) ?_
  refine lA 2 ?_
  refine sL 524298 2 ⟨74,0,[sB 19 (!r8),sI 3 y1,sA 1 1 5 0],[(1,(CV.frzRow (Pdu.row x0)))]⟩ ?_
  cases h10 : (!r8)
  ·have H := zX h10 H
   refine lA 3 ?_
   obtain ⟨v9,ev9,H⟩ := bs H
   refine iA zC.row ev9 ?_
   refine lA 2 ?_
   obtain ⟨r10,er10,H⟩ := bs H
   refine vA [.rd] (zAu n v9.V r10 er10) ?_
   refine uA 2 268435466 2 ?_
   obtain ⟨h11,H⟩ | ⟨h11,H⟩ := bC H
   ·refine nA h11 ?_
    refine tK ?_
    refine eA 3 10 2 ?_
    exact jB mo6 (IntKind.wrap .i64 (y1 + 1)) H [3,1] [1]
   refine tA h11 ?_
   refine gA 1 4 0 ?_
   refine te ?_
   obtain rfl := si H
   have H := Ho6
   dsimp only at H
   exact fF H
  have H := zY h10 H
  refine uA 9 268435466 2 ?_
  refine tB_ ?_
  refine gA 1 4 0 ?_
  refine te ?_
  obtain rfl := si H
  have H := Ho6
  dsimp only at H
  exact fF H
 rintro _ H
 have H : (Zq n x0) = some r := H
 unfold Zq at H
 refine tS ?_
 refine Tr.mid (ι := Unit) (fun v => ⟨74,0,[sA 1 1 5 0],[(1,(CV.frzRow (Pdu.row x0)))]⟩) (fun v => qq n x0 = some r) ?_ ?_
 ·refine rA 4 ?_
  refine sL 4294967298 2 ⟨74,0,[sB 32 (x0.Ki != 162),sA 1 1 5 0],[(1,(CV.frzRow (Pdu.row x0)))]⟩ ?_
  cases h5 : (x0.Ki != 162)
  ·have H := zX h5 H
   refine uA 14 70368744177666 2 ?_
   refine nB_ ?_
   refine tK ?_
   exact jA () H [1] [1]
  have H := zY h5 H
  refine lA 5 ?_
  refine sL 137438953474 2 ⟨74,0,[sB 37 (x0.Ki != 165),sA 1 1 5 0],[(1,(CV.frzRow (Pdu.row x0)))]⟩ ?_
  cases h6 : (x0.Ki != 165)
  ·have H := zX h6 H
   refine uA 9 70368744177666 2 ?_
   refine nB_ ?_
   refine tK ?_
   exact jA () H [1] [1]
  have H := zY h6 H
  refine lA 4 ?_
  refine sL 2336462209026 2 ⟨74,0,[sB 41 (x0.A != 0),sB 37 true,sA 1 1 5 0],[(1,(CV.frzRow (Pdu.row x0)))]⟩ ?_
  cases h7 : (x0.A != 0)
  ·have H := zX h7 H
   refine uA 5 70368744177666 2 ?_
   obtain ⟨h8,H⟩ | ⟨h8,H⟩ := bC H
   ·refine nA h8 ?_
    refine tK ?_
    exact jA () H [1] [1]
   refine tA h8 ?_
   refine gA 1 4 0 ?_
   exact te (fF H)
  have H := zY h7 H
  refine uA 5 70368744177666 2 ?_
  refine tB_ ?_
  refine gA 1 4 0 ?_
  exact te (fF H)
 rintro _ H
 have H : (qq n x0) = some r := H
 unfold qq at H
 obtain ⟨r2,er2,H⟩ := bs H
 refine sT ⟨74,0,[sA 1 1 5 0],[(1,(CV.frzRow (Pdu.row x0)))]⟩ ?_
 cases h1 : r2
 ·have H := zX h1 H
  refine Tr.draws mixed 28 kr ⟨74,0,[sB 2 false],[]⟩ (fun cx => ?_) ?_
  ·refine mA zP [(0,[]),(1,[2])] 26 [⟨[2],3,47,48⟩] fun cx => ?_
   refine mC zP 2 ?_
   refine vA [.rd] (Qg n x0.Ki r2 er2) ?_
   refine fA ?_
   refine mA zP [(3,[])] 24 [⟨[2],3,47,48⟩] fun cx => ?_
   refine sA_ 0x5800000000002 2 ⟨74,0,[sB 50 r2,sI 48 x0.Ki,sA 47 1 5 0,sA 1 1 5 0],[(1,(CV.frzRow (Pdu.row x0)))]⟩ ?_
   rw [h1]
   refine mA zP [(4,[]),(5,[]),(6,[]),(7,[]),(8,[]),(9,[]),(10,[]),(11,[]),(12,[]),(13,[]),(14,[]),(15,[]),(16,[]),(17,[]),(18,[]),(19,[]),(20,[]),(21,[]),(22,[]),(23,[]),(24,[]),(25,[]),(26,[]),(27,[])] 0 [⟨[2],3,47,48⟩] fun cx => ?_
   exact mE zP [2] []
  exact te (fF H)
 have H := zY h1 H
 obtain ⟨r3,er3,H⟩ := bs H
 refine sT ⟨74,0,[sA 1 1 5 0],[(1,(CV.frzRow (Pdu.row x0)))]⟩ ?_
 cases h2 : (r3 == x0.Id)
 ·have H := zX h2 H
  refine Tr.draws mixed 28 kr ⟨74,0,[sB 2 false],[]⟩ (fun cx => ?_) ?_
  ·refine mA zP [(0,[]),(1,[2,6])] 26 [⟨[2,6],3,47,48⟩] fun cx => ?_
   refine mC zP 2 ?_
   refine vA [.rd] (Qg n x0.Ki r2 er2) ?_
   refine fA ?_
   refine mA zP [(3,[])] 24 [⟨[2,6],3,47,48⟩] fun cx => ?_
   refine sA_ 0x5800000000002 2 ⟨74,0,[sB 50 r2,sI 48 x0.Ki,sA 47 1 5 0,sA 1 1 5 0],[(1,(CV.frzRow (Pdu.row x0)))]⟩ ?_
   rw [h1]
   refine mA zP [(4,[]),(5,[6]),(7,[]),(8,[])] 20 [⟨[],3,54,55⟩,⟨[6],3,51,52⟩,⟨[2,6],3,47,48⟩] fun cx => ?_
   refine mC zP 6 ?_
   refine vA [.rd] (qv n x0.Id r3 er3) ?_
   refine fA ?_
   refine mA zP [(9,[]),(10,[]),(11,[])] 16 [⟨[],3,54,55⟩,⟨[6],3,51,52⟩,⟨[2,6],3,47,48⟩] fun cx => ?_
   refine sA_ 0x4d9800000000002 2 ⟨74,0,[sB 58 (r3 == x0.Id),sI 55 x0.Id,sA 54 1 5 1,sI 52 x0.Id,sA 51 1 5 1,sI 48 x0.Ki,sA 47 1 5 0,sA 1 1 5 0],[(1,(CV.frzRow (Pdu.row x0)))]⟩ ?_
   rw [h2]
   refine mA zP [(12,[]),(13,[]),(14,[]),(15,[]),(16,[]),(17,[]),(18,[]),(19,[]),(20,[]),(21,[]),(22,[]),(23,[]),(24,[]),(25,[]),(26,[]),(27,[])] 0 [⟨[],3,54,55⟩,⟨[6],3,51,52⟩,⟨[2,6],3,47,48⟩] fun cx => ?_
   exact mE zP [2] []
  exact te (fF H)
 have H := zY h2 H
 obtain ⟨r4,er4,H⟩ := bs H
 refine sT ⟨74,0,[sA 1 1 5 0],[(1,(CV.frzRow (Pdu.row x0)))]⟩ ?_
 cases h3 : r4
 ·have H := zX h3 H
  refine Tr.draws mixed 28 kr ⟨74,0,[sB 2 false],[]⟩ (fun cx => ?_) ?_
  ·refine mA zP [(0,[]),(1,[2,6,14])] 26 [⟨[2,6,14],3,47,48⟩] fun cx => ?_
   refine mC zP 2 ?_
   refine vA [.rd] (Qg n x0.Ki r2 er2) ?_
   refine fA ?_
   refine mA zP [(3,[])] 24 [⟨[2,6,14],3,47,48⟩] fun cx => ?_
   refine sA_ 0x5800000000002 2 ⟨74,0,[sB 50 r2,sI 48 x0.Ki,sA 47 1 5 0,sA 1 1 5 0],[(1,(CV.frzRow (Pdu.row x0)))]⟩ ?_
   rw [h1]
   refine mA zP [(4,[]),(5,[6,14]),(7,[]),(8,[14])] 20 [⟨[14],3,54,55⟩,⟨[6,14],3,51,52⟩,⟨[2,6,14],3,47,48⟩] fun cx => ?_
   refine mC zP 6 ?_
   refine vA [.rd] (qv n x0.Id r3 er3) ?_
   refine fA ?_
   refine mA zP [(9,[]),(10,[]),(11,[])] 16 [⟨[14],3,54,55⟩,⟨[6,14],3,51,52⟩,⟨[2,6,14],3,47,48⟩] fun cx => ?_
   refine sA_ 0x4d9800000000002 2 ⟨74,0,[sB 58 (r3 == x0.Id),sI 55 x0.Id,sA 54 1 5 1,sI 52 x0.Id,sA 51 1 5 1,sI 48 x0.Ki,sA 47 1 5 0,sA 1 1 5 0],[(1,(CV.frzRow (Pdu.row x0)))]⟩ ?_
   rw [h2]
   refine mA zP [(12,[]),(13,[14])] 14 [⟨[14],3,59,60⟩,⟨[14],3,54,55⟩,⟨[6,14],3,51,52⟩,⟨[2,6,14],3,47,48⟩] fun cx => ?_
   refine mC zP 14 ?_
   refine vA [.rd,.rd,.rd] (ZD n x0.A 0 1000 r4 er4) ?_
   refine fA ?_
   refine mA zP [(15,[]),(16,[])] 11 [⟨[14],3,59,60⟩,⟨[14],3,54,55⟩,⟨[6,14],3,51,52⟩,⟨[2,6,14],3,47,48⟩] fun cx => ?_
   refine sA_ 0x98d9800000000002 2 ⟨74,0,[sB 63 r4,sI 60 x0.A,sA 59 1 5 2,sI 55 x0.Id,sA 54 1 5 1,sI 52 x0.Id,sA 51 1 5 1,sI 48 x0.Ki,sA 47 1 5 0,sA 1 1 5 0],[(1,(CV.frzRow (Pdu.row x0)))]⟩ ?_
   rw [h3]
   refine mA zP [(17,[]),(18,[]),(19,[]),(20,[]),(21,[]),(22,[]),(23,[]),(24,[]),(25,[]),(26,[]),(27,[])] 0 [⟨[14],3,59,60⟩,⟨[14],3,54,55⟩,⟨[6,14],3,51,52⟩,⟨[2,6,14],3,47,48⟩] fun cx => ?_
   exact mE zP [2] []
  exact te (fF H)
 have H := zY h3 H
 obtain ⟨r5,er5,H⟩ := bs H
 refine sT ⟨74,0,[sA 1 1 5 0],[(1,(CV.frzRow (Pdu.row x0)))]⟩ ?_
 cases h4 : r5
 ·have H := zX h4 H
  refine Tr.draws mixed 28 kr ⟨74,0,[sB 2 false],[]⟩ (fun cx => ?_) ?_
  ·refine mA zP [(0,[]),(1,[2,6,14,19])] 26 [⟨[2,6,14,19],3,47,48⟩] fun cx => ?_
   refine mC zP 2 ?_
   refine vA [.rd] (Qg n x0.Ki r2 er2) ?_
   refine fA ?_
   refine mA zP [(3,[])] 24 [⟨[2,6,14,19],3,47,48⟩] fun cx => ?_
   refine sA_ 0x5800000000002 2 ⟨74,0,[sB 50 r2,sI 48 x0.Ki,sA 47 1 5 0,sA 1 1 5 0],[(1,(CV.frzRow (Pdu.row x0)))]⟩ ?_
   rw [h1]
   refine mA zP [(4,[]),(5,[6,14,19]),(7,[]),(8,[14,19])] 20 [⟨[14,19],3,54,55⟩,⟨[6,14,19],3,51,52⟩,⟨[2,6,14,19],3,47,48⟩] fun cx => ?_
   refine mC zP 6 ?_
   refine vA [.rd] (qv n x0.Id r3 er3) ?_
   refine fA ?_
   refine mA zP [(9,[]),(10,[]),(11,[])] 16 [⟨[14,19],3,54,55⟩,⟨[6,14,19],3,51,52⟩,⟨[2,6,14,19],3,47,48⟩] fun cx => ?_
   refine sA_ 0x4d9800000000002 2 ⟨74,0,[sB 58 (r3 == x0.Id),sI 55 x0.Id,sA 54 1 5 1,sI 52 x0.Id,sA 51 1 5 1,sI 48 x0.Ki,sA 47 1 5 0,sA 1 1 5 0],[(1,(CV.frzRow (Pdu.row x0)))]⟩ ?_
   rw [h2]
   refine mA zP [(12,[]),(13,[14,19])] 14 [⟨[14,19],3,59,60⟩,⟨[14,19],3,54,55⟩,⟨[6,14,19],3,51,52⟩,⟨[2,6,14,19],3,47,48⟩] fun cx => ?_
   refine mC zP 14 ?_
   refine vA [.rd,.rd,.rd] (ZD n x0.A 0 1000 r4 er4) ?_
   refine fA ?_
   refine mA zP [(15,[]),(16,[])] 11 [⟨[14,19],3,59,60⟩,⟨[14,19],3,54,55⟩,⟨[6,14,19],3,51,52⟩,⟨[2,6,14,19],3,47,48⟩] fun cx => ?_
   refine sA_ 0x98d9800000000002 2 ⟨74,0,[sB 63 r4,sI 60 x0.A,sA 59 1 5 2,sI 55 x0.Id,sA 54 1 5 1,sI 52 x0.Id,sA 51 1 5 1,sI 48 x0.Ki,sA 47 1 5 0,sA 1 1 5 0],[(1,(CV.frzRow (Pdu.row x0)))]⟩ ?_
   rw [h3]
   refine mA zP [(17,[]),(18,[19])] 9 [⟨[19],3,64,65⟩,⟨[14,19],3,59,60⟩,⟨[14,19],3,54,55⟩,⟨[6,14,19],3,51,52⟩,⟨[2,6,14,19],3,47,48⟩] fun cx => ?_
   refine mC zP 19 ?_
   refine vA [.rd,.rd,.rd] (ZD n x0.B 0 1000 r5 er5) ?_
   refine fA ?_
   refine mA zP [(20,[]),(21,[])] 6 [⟨[19],3,64,65⟩,⟨[14,19],3,59,60⟩,⟨[14,19],3,54,55⟩,⟨[6,14,19],3,51,52⟩,⟨[2,6,14,19],3,47,48⟩] fun cx => ?_
   refine sA_ 0x1318d9800000000002 2 ⟨74,0,[sB 68 r5,sI 65 x0.B,sA 64 1 5 3,sI 60 x0.A,sA 59 1 5 2,sI 55 x0.Id,sA 54 1 5 1,sI 52 x0.Id,sA 51 1 5 1,sI 48 x0.Ki,sA 47 1 5 0,sA 1 1 5 0],[(1,(CV.frzRow (Pdu.row x0)))]⟩ ?_
   rw [h4]
   refine mA zP [(22,[]),(23,[]),(24,[]),(25,[]),(26,[]),(27,[])] 0 [⟨[19],3,64,65⟩,⟨[14,19],3,59,60⟩,⟨[14,19],3,54,55⟩,⟨[6,14,19],3,51,52⟩,⟨[2,6,14,19],3,47,48⟩] fun cx => ?_
   exact mE zP [2] []
  exact te (fF H)
 have H := zY h4 H
 refine Tr.draws mixed 28 kr ⟨74,0,[sB 2 (decide ((x0.Binds.length : Int) ≤ 10))],[]⟩ (fun cx => ?_) ?_
 ·refine mA zP [(0,[]),(1,[2,6,14,19])] 26 [⟨[2,6,14,19],3,47,48⟩] fun cx => ?_
  refine mC zP 2 ?_
  refine vA [.rd] (Qg n x0.Ki r2 er2) ?_
  refine fA ?_
  refine mA zP [(3,[])] 24 [⟨[2,6,14,19],3,47,48⟩] fun cx => ?_
  refine sA_ 0x5800000000002 2 ⟨74,0,[sB 50 r2,sI 48 x0.Ki,sA 47 1 5 0,sA 1 1 5 0],[(1,(CV.frzRow (Pdu.row x0)))]⟩ ?_
  rw [h1]
  refine mA zP [(4,[]),(5,[6,14,19]),(7,[]),(8,[14,19])] 20 [⟨[14,19],3,54,55⟩,⟨[6,14,19],3,51,52⟩,⟨[2,6,14,19],3,47,48⟩] fun cx => ?_
  refine mC zP 6 ?_
  refine vA [.rd] (qv n x0.Id r3 er3) ?_
  refine fA ?_
  refine mA zP [(9,[]),(10,[]),(11,[])] 16 [⟨[14,19],3,54,55⟩,⟨[6,14,19],3,51,52⟩,⟨[2,6,14,19],3,47,48⟩] fun cx => ?_
  refine sA_ 0x4d9800000000002 2 ⟨74,0,[sB 58 (r3 == x0.Id),sI 55 x0.Id,sA 54 1 5 1,sI 52 x0.Id,sA 51 1 5 1,sI 48 x0.Ki,sA 47 1 5 0,sA 1 1 5 0],[(1,(CV.frzRow (Pdu.row x0)))]⟩ ?_
  rw [h2]
  refine mA zP [(12,[]),(13,[14,19])] 14 [⟨[14,19],3,59,60⟩,⟨[14,19],3,54,55⟩,⟨[6,14,19],3,51,52⟩,⟨[2,6,14,19],3,47,48⟩] fun cx => ?_
  refine mC zP 14 ?_
  refine vA [.rd,.rd,.rd] (ZD n x0.A 0 1000 r4 er4) ?_
  refine fA ?_
  refine mA zP [(15,[]),(16,[])] 11 [⟨[14,19],3,59,60⟩,⟨[14,19],3,54,55⟩,⟨[6,14,19],3,51,52⟩,⟨[2,6,14,19],3,47,48⟩] fun cx => ?_
  refine sA_ 0x98d9800000000002 2 ⟨74,0,[sB 63 r4,sI 60 x0.A,sA 59 1 5 2,sI 55 x0.Id,sA 54 1 5 1,sI 52 x0.Id,sA 51 1 5 1,sI 48 x0.Ki,sA 47 1 5 0,sA 1 1 5 0],[(1,(CV.frzRow (Pdu.row x0)))]⟩ ?_
  rw [h3]
  refine mA zP [(17,[]),(18,[19])] 9 [⟨[19],3,64,65⟩,⟨[14,19],3,59,60⟩,⟨[14,19],3,54,55⟩,⟨[6,14,19],3,51,52⟩,⟨[2,6,14,19],3,47,48⟩] fun cx => ?_
  refine mC zP 19 ?_
  refine vA [.rd,.rd,.rd] (ZD n x0.B 0 1000 r5 er5) ?_
  refine fA ?_
  refine mA zP [(20,[]),(21,[])] 6 [⟨[19],3,64,65⟩,⟨[14,19],3,59,60⟩,⟨[14,19],3,54,55⟩,⟨[6,14,19],3,51,52⟩,⟨[2,6,14,19],3,47,48⟩] fun cx => ?_
  refine sA_ 0x1318d9800000000002 2 ⟨74,0,[sB 68 r5,sI 65 x0.B,sA 64 1 5 3,sI 60 x0.A,sA 59 1 5 2,sI 55 x0.Id,sA 54 1 5 1,sI 52 x0.Id,sA 51 1 5 1,sI 48 x0.Ki,sA 47 1 5 0,sA 1 1 5 0],[(1,(CV.frzRow (Pdu.row x0)))]⟩ ?_
  rw [h4]
  refine mA zP [(22,[]),(23,[])] 4 [⟨[],27,69,70⟩,⟨[19],3,64,65⟩,⟨[14,19],3,59,60⟩,⟨[14,19],3,54,55⟩,⟨[6,14,19],3,51,52⟩,⟨[2,6,14,19],3,47,48⟩] fun cx => ?_
  refine kFN zP 24 x0.Binds zC.row fun cx => ?_
  refine mA zP [(25,[]),(26,[]),(27,[])] 0 [⟨[],27,69,70⟩,⟨[19],3,64,65⟩,⟨[14,19],3,59,60⟩,⟨[14,19],3,54,55⟩,⟨[6,14,19],3,51,52⟩,⟨[2,6,14,19],3,47,48⟩] fun cx => ?_
  exact mE zP [2] []
 exact te (fJ [(false,[cB (decide ((x0.Binds.length : Int) ≤ 10))])] H)
def Z6 (n : Nat) (y3 : (List Int)) : Option ((List Int)) :=
  (some y3)
def qF (n : Nat) : Nat → (List Int) → Int → Option (((List Int)) ⊕ ((List Int)))
  | 0,_,_ => none
  | mo4 + 1,y1,y2 => (bif (decide (y2 > 127)) then (bif (decide ((0 : Int) ≤ 7)) then (bif (decide ([(IntKind.wrap .u8 (IntKind.wrap .i64 (BitVec.ofInt (IntKind.bits .i64) (IntKind.wrap .i64 (BitVec.ofInt (IntKind.bits .i64) (Int.fdiv y2 (2 ^ min ((7 : Int)).toNat (IntKind.bits .i64))) &&& BitVec.ofInt (IntKind.bits .i64) 127).toNat) ||| BitVec.ofInt (IntKind.bits .i64) 128).toNat))].length + y1.length ≤ 268435456)) then (qF n mo4 ([(IntKind.wrap .u8 (IntKind.wrap .i64 (BitVec.ofInt (IntKind.bits .i64) (IntKind.wrap .i64 (BitVec.ofInt (IntKind.bits .i64) (Int.fdiv y2 (2 ^ min ((7 : Int)).toNat (IntKind.bits .i64))) &&& BitVec.ofInt (IntKind.bits .i64) 127).toNat) ||| BitVec.ofInt (IntKind.bits .i64) 128).toNat))] ++ y1) (Int.fdiv y2 (2 ^ min ((7 : Int)).toNat (IntKind.bits .i64)))) else none) else none) else (some (Sum.inl y1)))
def Zr (n : Nat) (x0 : Int) : Option ((List Int)) :=
  ((qF n n [(IntKind.wrap .u8 (IntKind.wrap .i64 (BitVec.ofInt (IntKind.bits .i64) x0 &&& BitVec.ofInt (IntKind.bits .i64) 127).toNat))] x0).bind fun o => match o with | .inl y3 => (Z6 n y3) | .inr r => some r)
theorem zB1 (n : Nat) (x0 : Int) (r : (List Int)) (H : Zr n x0 = some r) : zJ Try.prog 195 [.val false [.lit (.int .i64 x0)]] [.val false [.sl true 1 (r.map zA)]] [] := by
 refine cW Try.func195 (fun g d => sl [g 0,g 1,.block 0 (.loop (sl [sl [g 2] (cn 9 .skip (.exit 0))] (.block 1 (sl [g 3] (g 4))))),g 5] .ret) [.tmp 2] fun cx => ?_
 unfold Zr at H
 refine gA 1 1 0 ?_
 refine rA 4 ?_
 refine LAt.moveU (T := lk tab) (ty := 33) (x := (.tmp 7)) (d := 3) (g := none) false [cL 1 [(IntKind.wrap .u8 (IntKind.wrap .i64 (BitVec.ofInt (IntKind.bits .i64) x0 &&& BitVec.ofInt (IntKind.bits .i64) 127).toNat))] zA] kr kr kr kr kr ?_
 refine dA 9 0 ?_
 refine tS ?_
 obtain ⟨o4,eo4,Ho4⟩ := bs H
 clear H
 refine Tr.mid (ι := (List Int)) (fun v => ⟨20,0,[sC 3 (cL 1 v zA)],[]⟩) (fun v => Z6 n v = some r) ?_ ?_
 ·refine tB ?_
  refine Tr.loop (ι := Nat × ((List Int) × Int)) (fun v => ⟨20,0,[sC 3 (cL 1 v.2.1 zA),sI 0 v.2.2],[]⟩) (fun v => qF n v.1 v.2.1 v.2.2 = some o4) (fun v => v.1) (n,([(IntKind.wrap .u8 (IntKind.wrap .i64 (BitVec.ofInt (IntKind.bits .i64) x0 &&& BitVec.ofInt (IntKind.bits .i64) 127).toNat))],x0)) eo4 (St.sub_of [3,0] [] kr) ?_
  rintro ⟨mo4,y1,y2⟩ H
  have H : qF n mo4 y1 y2 = some o4 := H
  obtain _ | mo4 := mo4
  ·exact nN H
  rw [qF] at H
  refine tS ?_
  refine gA 2 521 0 ?_
  obtain ⟨h1,H⟩ | ⟨h1,H⟩ := bC H
  ·refine nA h1 ?_
   refine Tr.exit ?_
   refine aJ ?_
   obtain rfl := si H
   have H := Ho4
   dsimp only at H
   exact jA y1 H [3] []
  refine tA h1 ?_
  refine tK ?_
  refine tB ?_
  refine rA 1 ?_
  obtain ⟨hg5,H⟩ := gs H
  refine LAt.binC tOk (op := .shr) (t := 3) (ty := 103) (ty' := 3) (x := (.tmp 10)) (y := (.const (.int .u64 7))) (d := 11) (g := none) (.int .i64 y2) (.int .u64 7) (.int .i64 (Int.fdiv y2 (2 ^ min ((7 : Int)).toNat (IntKind.bits .i64)))) _ kr kr kr kr kr (φ := (0 : Int) ≤ 7) kr (of_decide_eq_true hg5) rfl ?_
  refine uA 1 9 0 ?_
  refine Tr.at ?_
  refine lA 6 ?_
  obtain ⟨hg6,H⟩ := gs H
  refine pC (X := [(IntKind.wrap .u8 (IntKind.wrap .i64 (BitVec.ofInt (IntKind.bits .i64) (IntKind.wrap .i64 (BitVec.ofInt (IntKind.bits .i64) (Int.fdiv y2 (2 ^ min ((7 : Int)).toNat (IntKind.bits .i64))) &&& BitVec.ofInt (IntKind.bits .i64) 127).toNat) ||| BitVec.ofInt (IntKind.bits .i64) 128).toNat))]) zA hg6 ?_
  refine LAt.moveU (T := lk tab) (ty := 33) (x := (.tmp 18)) (d := 3) (g := none) false [cL 1 ([(IntKind.wrap .u8 (IntKind.wrap .i64 (BitVec.ofInt (IntKind.bits .i64) (IntKind.wrap .i64 (BitVec.ofInt (IntKind.bits .i64) (Int.fdiv y2 (2 ^ min ((7 : Int)).toNat (IntKind.bits .i64))) &&& BitVec.ofInt (IntKind.bits .i64) 127).toNat) ||| BitVec.ofInt (IntKind.bits .i64) 128).toNat))] ++ y1) zA] kr kr kr kr kr ?_
  refine dA 9 0 ?_
  exact jB mo4 (([(IntKind.wrap .u8 (IntKind.wrap .i64 (BitVec.ofInt (IntKind.bits .i64) (IntKind.wrap .i64 (BitVec.ofInt (IntKind.bits .i64) (Int.fdiv y2 (2 ^ min ((7 : Int)).toNat (IntKind.bits .i64))) &&& BitVec.ofInt (IntKind.bits .i64) 127).toNat) ||| BitVec.ofInt (IntKind.bits .i64) 128).toNat))] ++ y1),(Int.fdiv y2 (2 ^ min ((7 : Int)).toNat (IntKind.bits .i64)))) H [3,0] []
 rintro y3 H
 have H : (Z6 n y3) = some r := H
 unfold Z6 at H
 refine gA 2 12 0 ?_
 exact te (fJ [(false,[cL 1 y3 zA])] H)
def QT (n : Nat) (y4 : (List Int)) : Option ((List Int)) :=
  (some y4)
def qP (n : Nat) : Nat → (List Int) → Int → (List Int) → Option (((List Int)) ⊕ ((List Int)))
  | 0,_,_,_ => none
  | mo5 + 1,x0,y2,y3 => (bif (decide (y2 < (x0.length : Int))) then ((idx x0 y2).bind fun v6 => ((Zr n v6).bind fun r7 => (bif (decide (y3.length + r7.length ≤ 268435456)) then (qP n mo5 x0 (IntKind.wrap .i64 (y2 + 1)) (y3 ++ r7)) else none))) else (some (Sum.inl y3)))
def ZW (n : Nat) (x0 : (List Int)) : Option ((List Int)) :=
  ((zh n x0).bind fun r1 => (bif (!r1) then (some ([] : List Int)) else ((qP n n x0 0 ([] : List Int)).bind fun o => match o with | .inl y4 => (QT n y4) | .inr r => some r)))
theorem Yy (n : Nat) (x0 : (List Int)) (r : (List Int)) (H : ZW n x0 = some r) : zJ Try.prog 174 [.val false [.sl false 1 (CV.frzEs (x0.map intRow))]] [.val false [.sl true 1 (r.map zA)]] [] := by
 refine cW Try.func174 (fun g d => sl [g 0,g 1,sl [g 2] (cn 8 (sl [g 3] .ret) .skip),sl [g 4] (.block 0 (.loop (sl [sl [g 5] (cn 13 .skip (.exit 0)),.block 1 (g 7)] (g 6)))),g 8] .ret) [.tmp 2] fun cx => ?_
 unfold ZW at H
 refine gA 1 1 0 ?_
 refine rA 1 ?_
 refine LAt.moveU (T := lk tab) (ty := 33) (x := (.tmp 5)) (d := 3) (g := none) false [cL 1 ([] : List Int) zA] kr kr kr kr kr ?_
 refine dA 9 0 ?_
 refine tS ?_
 refine rA 1 ?_
 obtain ⟨r1,er1,H⟩ := bs H
 refine vA [.rd] (JW n x0 r1 er1) ?_
 refine uA 1 265 0 ?_
 obtain ⟨h1,H⟩ | ⟨h1,H⟩ := bC H
 ·refine nA h1 ?_
  refine tK ?_
  refine tS ?_
  refine gA 1 25 0 ?_
  obtain ⟨o5,eo5,Ho5⟩ := bs H
  clear H
  refine Tr.mid (ι := (List Int)) (fun v => ⟨24,0,[sC 3 (cL 1 v zA)],[]⟩) (fun v => QT n v = some r) ?_ ?_
  ·refine tB ?_
   refine Tr.loop (ι := Nat × (Int × (List Int))) (fun v => ⟨24,0,[sI 4 v.2.1,sC 3 (cL 1 v.2.2 zA),sC 0 (cF 1 x0 intRow)],[]⟩) (fun v => qP n v.1 x0 v.2.1 v.2.2 = some o5) (fun v => v.1) (n,(0,([] : List Int))) eo5 (St.sub_of [4,3,0] [] kr) ?_
   rintro ⟨mo5,y2,y3⟩ H
   have H : qP n mo5 x0 y2 y3 = some o5 := H
   obtain _ | mo5 := mo5
   ·exact nN H
   rw [qP] at H
   refine tS ?_
   refine rA 2 ?_
   refine kF x0 intRow ?_
   refine uA 1 8217 0 ?_
   obtain ⟨h2,H⟩ | ⟨h2,H⟩ := bC H
   ·refine nA h2 ?_
    refine Tr.exit ?_
    refine aJ ?_
    obtain rfl := si H
    have H := Ho5
    dsimp only at H
    exact jA y3 H [3] []
   refine tA h2 ?_
   refine tK ?_
   refine tS ?_
   refine tB ?_
   refine Tr.at ?_
   refine lA 3 ?_
   obtain ⟨v6,ev6,H⟩ := bs H
   refine iA intRow ev6 ?_
   refine lA 1 ?_
   obtain ⟨r7,er7,H⟩ := bs H
   refine vA [.rd] (zB1 n v6 r7 er7) ?_
   obtain ⟨hg8,H⟩ := gs H
   refine LAt.appMU tOk (t := 33) (ty := 33) (e := 5) (x := (.tmp 16)) (y := (.tmp 21)) (d := 22) (g := none) (tI 5) zA y3 r7 kr kr kr kr kr kr kr kr kr kr hg8 ?_
   refine LAt.moveU (T := lk tab) (ty := 33) (x := (.tmp 22)) (d := 3) (g := none) false [cL 1 (y3 ++ r7) zA] kr kr kr kr kr ?_
   refine dA 25 0 ?_
   refine eA 3 25 0 ?_
   exact jB mo5 ((IntKind.wrap .i64 (y2 + 1)),(y3 ++ r7)) H [4,3,0] []
  rintro y4 H
  have H : (QT n y4) = some r := H
  unfold QT at H
  refine gA 2 12 0 ?_
  exact te (fJ [(false,[cL 1 y4 zA])] H)
 refine tA h1 ?_
 refine gA 2 12 0 ?_
 exact te (fJ [(false,[cL 1 ([] : List Int) zA])] H)
def qe (n : Nat) (x2 : (List Int)) (y4 : (List Int)) : Option ((List Int)) :=
  (bif (decide (y4.length + [(IntKind.wrap .u8 (x2.length : Int))].length ≤ 268435456)) then (bif (decide ((y4 ++ [(IntKind.wrap .u8 (x2.length : Int))]).length + x2.length ≤ 268435456)) then (some ((y4 ++ [(IntKind.wrap .u8 (x2.length : Int))]) ++ x2)) else none) else none)
def zb (n : Nat) (x0 : (List Int)) (x1 : Int) (x2 : (List Int)) : Option ((List Int)) :=
  (bif (decide (([] : List Int).length + x0.length ≤ 268435456)) then ((qW n x1 0 255).bind fun r2 => (bif (!r2) then (some (([] : List Int) ++ x0)) else (bif (decide ((x2.length : Int) > 250)) then (some (([] : List Int) ++ x0)) else (bif (decide ((([] : List Int) ++ x0).length + [(IntKind.wrap .u8 x1)].length ≤ 268435456)) then (bif (decide ((x2.length : Int) > 127)) then (bif (decide (((([] : List Int) ++ x0) ++ [(IntKind.wrap .u8 x1)]).length + [129].length ≤ 268435456)) then (qe n x2 (((([] : List Int) ++ x0) ++ [(IntKind.wrap .u8 x1)]) ++ [129])) else none) else (qe n x2 ((([] : List Int) ++ x0) ++ [(IntKind.wrap .u8 x1)]))) else none)))) else none)
theorem zi (n : Nat) (x0 : (List Int)) (x1 : Int) (x2 : (List Int)) (r : (List Int)) (H : zb n x0 x1 x2 = some r) : zJ Try.prog 85 [.val false [.sl false 1 (CV.frzEs (x0.map zA))],.val false [.lit (.int .i64 x1)],.val false [.sl false 1 (CV.frzEs (x2.map zA))]] [.val false [.sl true 1 (r.map zA)]] [] := by
 refine cW Try.func85 (fun g d => sl [g 0,g 1,sl [g 2] (cn 18 (sl [g 3] .ret) .skip),g 4,sl [g 5] (cn 27 (g 6) .skip),g 7] .ret) [.tmp 6] fun cx => ?_
 unfold zb at H
 refine gA 1 7 0 ?_
 refine rA 2 ?_
 obtain ⟨hg1,H⟩ := gs H
 refine pD zA hg1 ?_
 refine LAt.moveU (T := lk tab) (ty := 33) (x := (.tmp 10)) (d := 7) (g := none) false [cL 1 (([] : List Int) ++ x0) zA] kr kr kr kr kr ?_
 refine dA 134 0 ?_
 refine tS ?_
 refine rA 1 ?_
 obtain ⟨r2,er2,H⟩ := bs H
 refine vA [.rd,.rd,.rd] (ZD n x1 0 255 r2 er2) ?_
 refine lA 2 ?_
 refine sL 16518 0 ⟨39,0,[sB 14 (!r2),sC 7 (cL 1 (([] : List Int) ++ x0) zA),sI 1 x1,sC 2 (cF 1 x2 zA)],[]⟩ ?_
 cases h1 : (!r2)
 ·have H := zX h1 H
  refine lA 1 ?_
  refine kF x2 zA ?_
  refine uA 2 262278 0 ?_
  obtain ⟨h2,H⟩ | ⟨h2,H⟩ := bC H
  ·refine nA h2 ?_
   refine tK ?_
   refine rA 4 ?_
   obtain ⟨hg3,H⟩ := gs H
   refine LAt.appMU tOk (t := 33) (ty := 33) (e := 5) (x := (.tmp 20)) (y := (.tmp 23)) (d := 24) (g := none) (tI 5) zA (([] : List Int) ++ x0) [(IntKind.wrap .u8 x1)] kr kr kr kr kr kr kr kr kr kr hg3 ?_
   refine LAt.moveU (T := lk tab) (ty := 33) (x := (.tmp 24)) (d := 7) (g := none) false [cL 1 ((([] : List Int) ++ x0) ++ [(IntKind.wrap .u8 x1)]) zA] kr kr kr kr kr ?_
   refine dA 132 0 ?_
   refine tS ?_
   refine Tr.mid (ι := (List Int)) (fun v => ⟨39,0,[sC 7 (cL 1 v zA),sC 2 (cF 1 x2 zA)],[]⟩) (fun v => qe n x2 v = some r) ?_ ?_
   ·refine rA 1 ?_
    refine kF x2 zA ?_
    refine uA 1 134217860 0 ?_
    obtain ⟨h3,H⟩ | ⟨h3,H⟩ := bC H
    ·refine nA h3 ?_
     refine tK ?_
     exact jA ((([] : List Int) ++ x0) ++ [(IntKind.wrap .u8 x1)]) H [7,2] []
    refine tA h3 ?_
    refine Tr.at ?_
    refine lA 2 ?_
    obtain ⟨hg7,H⟩ := gs H
    refine LAt.appMU tOk (t := 33) (ty := 33) (e := 5) (x := (.tmp 28)) (y := (.tmp 29)) (d := 30) (g := none) (tI 5) zA ((([] : List Int) ++ x0) ++ [(IntKind.wrap .u8 x1)]) [129] kr kr kr kr kr kr kr kr kr kr hg7 ?_
    refine LAt.moveU (T := lk tab) (ty := 33) (x := (.tmp 30)) (d := 7) (g := none) false [cL 1 (((([] : List Int) ++ x0) ++ [(IntKind.wrap .u8 x1)]) ++ [129]) zA] kr kr kr kr kr ?_
    refine dA 132 0 ?_
    exact jA (((([] : List Int) ++ x0) ++ [(IntKind.wrap .u8 x1)]) ++ [129]) H [7,2] []
   rintro y4 H
   have H : (qe n x2 y4) = some r := H
   unfold qe at H
   refine rA 2 ?_
   refine kF x2 zA ?_
   refine lA 2 ?_
   obtain ⟨hg5,H⟩ := gs H
   refine LAt.appMU tOk (t := 33) (ty := 33) (e := 5) (x := (.tmp 31)) (y := (.tmp 35)) (d := 36) (g := none) (tI 5) zA y4 [(IntKind.wrap .u8 (x2.length : Int))] kr kr kr kr kr kr kr kr kr kr hg5 ?_
   refine lA 1 ?_
   obtain ⟨hg6,H⟩ := gs H
   refine pD zA hg6 ?_
   refine LAt.moveU (T := lk tab) (ty := 33) (x := (.tmp 38)) (d := 6) (g := none) false [cL 1 ((y4 ++ [(IntKind.wrap .u8 (x2.length : Int))]) ++ x2) zA] kr kr kr kr kr ?_
   refine dA 64 0 ?_
   exact te (fJ [(false,[cL 1 ((y4 ++ [(IntKind.wrap .u8 (x2.length : Int))]) ++ x2) zA])] H)
  refine tA h2 ?_
  refine gA 2 192 0 ?_
  exact te (fJ [(false,[cL 1 (([] : List Int) ++ x0) zA])] H)
 have H := zY h1 H
 refine uA 4 262278 0 ?_
 refine tB_ ?_
 refine gA 2 192 0 ?_
 exact te (fJ [(false,[cL 1 (([] : List Int) ++ x0) zA])] H)
def QS (n : Nat) (y4 : (List Int)) : Option ((List Int)) :=
  (some y4)
def z9 (n : Nat) : Nat → (List Int) → Int → Option (((List Int)) ⊕ ((List Int)))
  | 0,_,_ => none
  | mo5 + 1,y2,y3 => (bif (decide (y3 < (-128))) then (bif (decide ((0 : Int) ≤ 8)) then (bif (decide ([(IntKind.wrap .u8 (Int.fdiv y3 (2 ^ min ((8 : Int)).toNat (IntKind.bits .i64))))].length + y2.length ≤ 268435456)) then (z9 n mo5 ([(IntKind.wrap .u8 (Int.fdiv y3 (2 ^ min ((8 : Int)).toNat (IntKind.bits .i64))))] ++ y2) (Int.fdiv y3 (2 ^ min ((8 : Int)).toNat (IntKind.bits .i64)))) else none) else none) else (bif (decide (y3 > 127)) then (bif (decide ((0 : Int) ≤ 8)) then (bif (decide ([(IntKind.wrap .u8 (Int.fdiv y3 (2 ^ min ((8 : Int)).toNat (IntKind.bits .i64))))].length + y2.length ≤ 268435456)) then (z9 n mo5 ([(IntKind.wrap .u8 (Int.fdiv y3 (2 ^ min ((8 : Int)).toNat (IntKind.bits .i64))))] ++ y2) (Int.fdiv y3 (2 ^ min ((8 : Int)).toNat (IntKind.bits .i64)))) else none) else none) else (some (Sum.inl y2))))
def qi (n : Nat) (x0 : Int) : Option ((List Int)) :=
  ((z6 n x0).bind fun r1 => ((z9 n n [(IntKind.wrap .u8 r1)] r1).bind fun o => match o with | .inl y4 => (QS n y4) | .inr r => some r))
theorem ZH (n : Nat) (x0 : Int) (r : (List Int)) (H : qi n x0 = some r) : zJ Try.prog 138 [.val false [.lit (.int .i64 x0)]] [.val false [.sl true 1 (r.map zA)]] [] := by
 refine cW Try.func138 (fun g d => sl [g 0,g 1,g 2,.block 0 (.loop (sl [sl [g 3] (cn 14 .skip (.exit 0))] (.block 1 (sl [g 4] (g 5))))),g 6] .ret) [.tmp 2] fun cx => ?_
 unfold qi at H
 refine gA 1 1 0 ?_
 refine rA 1 ?_
 obtain ⟨r1,er1,H⟩ := bs H
 refine vA [.rd] (qv n x0 r1 er1) ?_
 refine uA 1 1 0 ?_
 refine rA 3 ?_
 refine LAt.moveU (T := lk tab) (ty := 33) (x := (.tmp 8)) (d := 3) (g := none) false [cL 1 [(IntKind.wrap .u8 r1)] zA] kr kr kr kr kr ?_
 refine dA 9 0 ?_
 refine tS ?_
 obtain ⟨o5,eo5,Ho5⟩ := bs H
 clear H
 refine Tr.mid (ι := (List Int)) (fun v => ⟨23,0,[sC 3 (cL 1 v zA)],[]⟩) (fun v => QS n v = some r) ?_ ?_
 ·refine tB ?_
  refine Tr.loop (ι := Nat × ((List Int) × Int)) (fun v => ⟨23,0,[sC 3 (cL 1 v.2.1 zA),sI 0 v.2.2],[]⟩) (fun v => z9 n v.1 v.2.1 v.2.2 = some o5) (fun v => v.1) (n,([(IntKind.wrap .u8 r1)],r1)) eo5 (St.sub_of [3,0] [] kr) ?_
  rintro ⟨mo5,y2,y3⟩ H
  have H : z9 n mo5 y2 y3 = some o5 := H
  obtain _ | mo5 := mo5
  ·exact nN H
  rw [z9] at H
  refine tS ?_
  refine rA 3 ?_
  refine sL 2057 0 ⟨23,0,[sB 11 (decide (y3 < (-128))),sC 3 (cL 1 y2 zA),sI 0 y3],[]⟩ ?_
  cases h1 : (decide (y3 < (-128)))
  ·have H := zX h1 H
   refine uA 3 16393 0 ?_
   obtain ⟨h2,H⟩ | ⟨h2,H⟩ := bC H
   ·refine nA h2 ?_
    refine Tr.exit ?_
    refine aJ ?_
    obtain rfl := si H
    have H := Ho5
    dsimp only at H
    exact jA y2 H [3] []
   refine tA h2 ?_
   refine tK ?_
   refine tB ?_
   refine rA 1 ?_
   obtain ⟨hg6,H⟩ := gs H
   refine LAt.binC tOk (op := .shr) (t := 3) (ty := 103) (ty' := 3) (x := (.tmp 15)) (y := (.const (.int .u64 8))) (d := 16) (g := none) (.int .i64 y3) (.int .u64 8) (.int .i64 (Int.fdiv y3 (2 ^ min ((8 : Int)).toNat (IntKind.bits .i64)))) _ kr kr kr kr kr (φ := (0 : Int) ≤ 8) kr (of_decide_eq_true hg6) rfl ?_
   refine uA 1 9 0 ?_
   refine Tr.at ?_
   refine lA 4 ?_
   obtain ⟨hg7,H⟩ := gs H
   refine pC (X := [(IntKind.wrap .u8 (Int.fdiv y3 (2 ^ min ((8 : Int)).toNat (IntKind.bits .i64))))]) zA hg7 ?_
   refine LAt.moveU (T := lk tab) (ty := 33) (x := (.tmp 21)) (d := 3) (g := none) false [cL 1 ([(IntKind.wrap .u8 (Int.fdiv y3 (2 ^ min ((8 : Int)).toNat (IntKind.bits .i64))))] ++ y2) zA] kr kr kr kr kr ?_
   refine dA 9 0 ?_
   exact jB mo5 (([(IntKind.wrap .u8 (Int.fdiv y3 (2 ^ min ((8 : Int)).toNat (IntKind.bits .i64))))] ++ y2),(Int.fdiv y3 (2 ^ min ((8 : Int)).toNat (IntKind.bits .i64)))) H [3,0] []
  have H := zY h1 H
  refine uA 3 16393 0 ?_
  refine tB_ ?_
  refine tK ?_
  refine tB ?_
  refine rA 1 ?_
  obtain ⟨hg8,H⟩ := gs H
  refine LAt.binC tOk (op := .shr) (t := 3) (ty := 103) (ty' := 3) (x := (.tmp 15)) (y := (.const (.int .u64 8))) (d := 16) (g := none) (.int .i64 y3) (.int .u64 8) (.int .i64 (Int.fdiv y3 (2 ^ min ((8 : Int)).toNat (IntKind.bits .i64)))) _ kr kr kr kr kr (φ := (0 : Int) ≤ 8) kr (of_decide_eq_true hg8) rfl ?_
  refine uA 1 9 0 ?_
  refine Tr.at ?_
  refine lA 4 ?_
  obtain ⟨hg9,H⟩ := gs H
  refine pC (X := [(IntKind.wrap .u8 (Int.fdiv y3 (2 ^ min ((8 : Int)).toNat (IntKind.bits .i64))))]) zA hg9 ?_
  refine LAt.moveU (T := lk tab) (ty := 33) (x := (.tmp 21)) (d := 3) (g := none) false [cL 1 ([(IntKind.wrap .u8 (Int.fdiv y3 (2 ^ min ((8 : Int)).toNat (IntKind.bits .i64))))] ++ y2) zA] kr kr kr kr kr ?_
  refine dA 9 0 ?_
  exact jB mo5 (([(IntKind.wrap .u8 (Int.fdiv y3 (2 ^ min ((8 : Int)).toNat (IntKind.bits .i64))))] ++ y2),(Int.fdiv y3 (2 ^ min ((8 : Int)).toNat (IntKind.bits .i64)))) H [3,0] []
 rintro y4 H
 have H : (QS n y4) = some r := H
 unfold QS at H
 refine gA 2 12 0 ?_
 exact te (fJ [(false,[cL 1 y4 zA])] H)
def QI (n : Nat) (x0 : (List Int)) (x1 : Val) : Option ((List Int)) :=
  ((z7 n x1).bind fun r1 => (bif (!r1) then (bif (decide (([] : List Int).length + x0.length ≤ 268435456)) then (some (([] : List Int) ++ x0)) else none) else (bif (x1.K == 2) then ((qi n x1.N).bind fun r7 => ((zb n x0 x1.K r7).bind fun r8 => (some r8))) else (bif (x1.K == 4) then (bif (decide (x1.S.size ≤ 268435456)) then ((zb n x0 x1.K (bytesOf x1.S)).bind fun r6 => (some r6)) else none) else (bif (x1.K == 6) then ((ZW n x1.O).bind fun r3 => ((zb n x0 x1.K r3).bind fun r4 => (some r4))) else ((zb n x0 x1.K ([] : List Int)).bind fun r2 => (some r2)))))))
theorem zAJ (n : Nat) (x0 : (List Int)) (x1 : Val) (r : (List Int)) (H : QI n x0 x1 = some r) : zJ Try.prog 173 [.val false [.sl false 1 (CV.frzEs (x0.map zA))],.val true (CV.frzRow (Val.row x1))] [.val false [.sl true 1 (r.map zA)]] [] := by
 refine cW Try.func173 (fun g d => sl [g 0,sl [g 1] (cn 8 (sl [g 2] .ret) .skip),g 3,sl [g 4] (.block 0 (sl [g 5] (cn 15 (g 6) (sl [g 7] (cn 20 (g 8) (sl [g 9] (cn 25 (g 10) .skip))))))),g 11] .ret) [.tmp 4] fun cx => ?_
 unfold QI at H
 refine gA 2 9 8 ?_
 refine tS ?_
 refine rA 1 ?_
 obtain ⟨r1,er1,H⟩ := bs H
 refine vA [.rd] (zAu n x1 r1 er1) ?_
 refine uA 1 265 8 ?_
 obtain ⟨h1,H⟩ | ⟨h1,H⟩ := bC H
 ·refine nA h1 ?_
  refine tK ?_
  refine rA 1 ?_
  refine LAt.moveU (T := lk tab) (ty := 33) (x := (.tmp 12)) (d := 5) (g := none) false [cL 1 ([] : List Int) zA] kr kr kr kr kr ?_
  refine dA 41 8 ?_
  refine tS ?_
  refine gA 2 16425 8 ?_
  refine tB ?_
  refine gA 2 49193 8 ?_
  obtain ⟨h2,H⟩ | ⟨h2,H⟩ := bC H
  ·refine nA h2 ?_
   refine gA 2 1065001 8 ?_
   obtain ⟨h3,H⟩ | ⟨h3,H⟩ := bC H
   ·refine nA h3 ?_
    refine gA 2 33554473 8 ?_
    obtain ⟨h4,H⟩ | ⟨h4,H⟩ := bC H
    ·refine nA h4 ?_
     refine tK ?_
     refine rA 4 ?_
     obtain ⟨r2,er2,H⟩ := bs H
     refine vB [.rd,.rd,.rd] [.slot 5] (zi n x0 x1.K ([] : List Int) r2 er2) (.inr (zj (zL (ql (qL qH _)) za) z5)) ?_
     refine LAt.moveU (T := lk tab) (ty := 33) (x := (.tmp 34)) (d := 4) (g := none) false [cL 1 r2 zA] kr kr kr kr kr ?_
     refine dA 16 0 ?_
     exact te (fJ [(false,[cL 1 r2 zA])] H)
    refine tA h4 ?_
    refine Tr.at ?_
    refine lA 2 ?_
    obtain ⟨r3,er3,H⟩ := bs H
    refine vA [.rd] (Yy n x1.O r3 er3) ?_
    refine LAt.moveU (T := lk tab) (ty := 33) (x := (.tmp 29)) (d := 5) (g := none) false [cL 1 r3 zA] kr kr kr kr kr ?_
    refine dA 41 8 ?_
    refine rA 4 ?_
    obtain ⟨r4,er4,H⟩ := bs H
    refine vB [.rd,.rd,.rd] [.slot 5] (zi n x0 x1.K r3 r4 er4) (.inr (zj (zL (ql (qL qH _)) za) z5)) ?_
    refine LAt.moveU (T := lk tab) (ty := 33) (x := (.tmp 34)) (d := 4) (g := none) false [cL 1 r4 zA] kr kr kr kr kr ?_
    refine dA 16 0 ?_
    exact te (fJ [(false,[cL 1 r4 zA])] H)
   refine tA h3 ?_
   refine Tr.at ?_
   refine lA 2 ?_
   obtain ⟨hg5,H⟩ := gs H
   refine LAt.s2b tOk (t := 9) (u := 33) (ty := 33) (x := (.tmp 23)) (d := 24) (g := none) (S := x1.S) kr kr kr kr kr kr hg5 ?_
   refine uA 1 41 8 ?_
   refine rA 4 ?_
   obtain ⟨r6,er6,H⟩ := bs H
   refine vA [.rd,.rd,.rd] (zi n x0 x1.K (bytesOf x1.S) r6 er6) ?_
   refine LAt.moveU (T := lk tab) (ty := 33) (x := (.tmp 34)) (d := 4) (g := none) false [cL 1 r6 zA] kr kr kr kr kr ?_
   refine dA 16 0 ?_
   exact te (fJ [(false,[cL 1 r6 zA])] H)
  refine tA h2 ?_
  refine Tr.at ?_
  refine lA 2 ?_
  obtain ⟨r7,er7,H⟩ := bs H
  refine vA [.rd] (ZH n x1.N r7 er7) ?_
  refine LAt.moveU (T := lk tab) (ty := 33) (x := (.tmp 19)) (d := 5) (g := none) false [cL 1 r7 zA] kr kr kr kr kr ?_
  refine dA 41 8 ?_
  refine rA 4 ?_
  obtain ⟨r8,er8,H⟩ := bs H
  refine vB [.rd,.rd,.rd] [.slot 5] (zi n x0 x1.K r7 r8 er8) (.inr (zj (zL (ql (qL qH _)) za) z5)) ?_
  refine LAt.moveU (T := lk tab) (ty := 33) (x := (.tmp 34)) (d := 4) (g := none) false [cL 1 r8 zA] kr kr kr kr kr ?_
  refine dA 16 0 ?_
  exact te (fJ [(false,[cL 1 r8 zA])] H)
 refine tA h1 ?_
 refine rA 2 ?_
 obtain ⟨hg9,H⟩ := gs H
 refine pD zA hg9 ?_
 refine LAt.moveU (T := lk tab) (ty := 33) (x := (.tmp 11)) (d := 4) (g := none) false [cL 1 (([] : List Int) ++ x0) zA] kr kr kr kr kr ?_
 refine dA 16 0 ?_
 exact te (fJ [(false,[cL 1 (([] : List Int) ++ x0) zA])] H)
def Z7 (n : Nat) (y3 : (List Int)) : Option ((List Int)) :=
  (some y3)
def qG (n : Nat) : Nat → (List zC) → Int → (List Int) → Option (((List Int)) ⊕ ((List Int)))
  | 0,_,_,_ => none
  | mo4 + 1,x0,y1,y2 => (bif (decide (y1 < (x0.length : Int))) then ((idx x0 y1).bind fun v5 => ((ZW n v5.O).bind fun r6 => ((zb n ([] : List Int) 6 r6).bind fun r7 => ((idx x0 y1).bind fun v8 => ((QI n r7 v8.V).bind fun r9 => ((zb n y2 48 r9).bind fun r10 => (qG n mo4 x0 (IntKind.wrap .i64 (y1 + 1)) r10))))))) else (some (Sum.inl y2)))
def Zs (n : Nat) (x0 : (List zC)) : Option ((List Int)) :=
  ((qG n n x0 0 ([] : List Int)).bind fun o => match o with | .inl y3 => (Z7 n y3) | .inr r => some r)
def zD6 : Tab := ⟨15,[0,0,0,6,8,16,32,65,0,0,768,1024,2048,4224,16383],[0,0,0,6,8,16,32,65,0,0,768,1024,2048,4224,8192],[0,0,0,6,14,30,62,127,0,0,768,1792,3840,8191,16383]⟩
theorem qr : zp (rg Try.f137 5) zD6 = true := kr
theorem zB2 (n : Nat) (x0 : (List zC)) (r : (List Int)) (H : Zs n x0 = some r) : zJ Try.prog 137 [.val false [.sl false 5 (CV.frzEs (x0.map zC.row))]] [.val false [.sl true 1 (r.map zA)]] [] := by
 refine cW Try.func137 (fun g d => sl [g 0,g 1,sl [g 2] (.block 0 (.loop (sl [sl [g 3] (cn 10 .skip (.exit 0)),.block 1 (sl [d 5] (g 6))] (g 4)))),g 7] .ret) [.tmp 2] fun cx => ?_
 unfold Zs at H
 refine gA 1 1 0 ?_
 refine rA 1 ?_
 refine LAt.moveU (T := lk tab) (ty := 33) (x := (.tmp 6)) (d := 3) (g := none) false [cL 1 ([] : List Int) zA] kr kr kr kr kr ?_
 refine dA 9 0 ?_
 refine tS ?_
 refine gA 1 25 0 ?_
 obtain ⟨o4,eo4,Ho4⟩ := bs H
 clear H
 refine Tr.mid (ι := (List Int)) (fun v => ⟨31,0,[sC 3 (cL 1 v zA)],[]⟩) (fun v => Z7 n v = some r) ?_ ?_
 ·refine tB ?_
  refine Tr.loop (ι := Nat × (Int × (List Int))) (fun v => ⟨31,0,[sI 4 v.2.1,sC 3 (cL 1 v.2.2 zA),sC 0 (cF 5 x0 zC.row)],[]⟩) (fun v => qG n v.1 x0 v.2.1 v.2.2 = some o4) (fun v => v.1) (n,(0,([] : List Int))) eo4 (St.sub_of [4,3,0] [] kr) ?_
  rintro ⟨mo4,y1,y2⟩ H
  have H : qG n mo4 x0 y1 y2 = some o4 := H
  obtain _ | mo4 := mo4
  ·exact nN H
  rw [qG] at H
  refine tS ?_
  refine rA 2 ?_
  refine kF x0 zC.row ?_
  refine uA 1 1049 0 ?_
  obtain ⟨h1,H⟩ | ⟨h1,H⟩ := bC H
  ·refine nA h1 ?_
   refine Tr.exit ?_
   refine aJ ?_
   obtain rfl := si H
   have H := Ho4
   dsimp only at H
   exact jA y2 H [3] []
  refine tA h1 ?_
  refine tK ?_
  refine tS ?_
  refine tB ?_
  obtain ⟨v5,ev5,H⟩ := bs H
  obtain ⟨r6,er6,H⟩ := bs H
  obtain ⟨r7,er7,H⟩ := bs H
  obtain ⟨v8,ev8,H⟩ := bs H
  obtain ⟨r9,er9,H⟩ := bs H
  refine Tr.draws mixed 15 kr ⟨31,0,[sC 5 (cL 1 r9 zA),sI 4 y1,sC 3 (cL 1 y2 zA),sC 0 (cF 5 x0 zC.row)],[]⟩ (fun cx => ?_) ?_
  ·refine mA qr [(1,[]),(2,[])] 13 [] fun cx => ?_
   refine iN qr 3 zC.row ev5 fun cx => ?_
   refine mA qr [(4,[]),(5,[]),(8,[]),(9,[])] 8 [] fun cx => ?_
   refine iN qr 10 zC.row ev8 fun cx => ?_
   refine mA qr [(11,[]),(12,[])] 5 [] fun cx => ?_
   refine mB2 tOk qr 0 6 kr (And.intro kr ?_) (And.intro kr ?_)
   ·refine lA 1 ?_
    refine fA ?_
    refine mC qr 6 ?_
    refine vA [.rd] (Yy n v5.O r6 er6) ?_
    refine fA ?_
    refine mC qr 7 ?_
    refine vA [.rd,.rd,.rd] (zi n ([] : List Int) 6 r6 r7 er7) ?_
    refine fA ?_
    refine mC qr 13 ?_
    refine vA [.rd,.rd] (zAJ n r7 v8.V r9 er9) ?_
    refine fA ?_
    refine mC qr 14 ?_
    refine LAt.moveU (T := lk tab) (ty := 33) (x := (.tmp 26)) (d := 5) (g := none) false [cL 1 r9 zA] kr kr kr kr kr ?_
    refine fA ?_
    exact mE qr [5,4,3,0] []
   ·refine vA [.rd] (Yy n v5.O r6 er6) ?_
    refine fA ?_
    refine mC qr 0 ?_
    refine lA 1 ?_
    refine fA ?_
    refine mC qr 7 ?_
    refine vA [.rd,.rd,.rd] (zi n ([] : List Int) 6 r6 r7 er7) ?_
    refine fA ?_
    refine mC qr 13 ?_
    refine vA [.rd,.rd] (zAJ n r7 v8.V r9 er9) ?_
    refine fA ?_
    refine mC qr 14 ?_
    refine LAt.moveU (T := lk tab) (ty := 33) (x := (.tmp 26)) (d := 5) (g := none) false [cL 1 r9 zA] kr kr kr kr kr ?_
    refine fA ?_
    exact mE qr [5,4,3,0] []
  refine Tr.at ?_
  refine lA 2 ?_
  obtain ⟨r10,er10,H⟩ := bs H
  refine vB [.rd,.rd,.rd] [.slot 3,.slot 5] (zi n y2 48 r9 r10 er10) (.inr (zj (zL (ql (qL qH _)) za) z5)) ?_
  refine LAt.moveU (T := lk tab) (ty := 33) (x := (.tmp 29)) (d := 3) (g := none) false [cL 1 r10 zA] kr kr kr kr kr ?_
  refine dA 25 0 ?_
  refine eA 3 25 0 ?_
  exact jB mo4 ((IntKind.wrap .i64 (y1 + 1)),r10) H [4,3,0] []
 rintro y3 H
 have H : (Z7 n y3) = some r := H
 unfold Z7 at H
 refine gA 2 12 0 ?_
 exact te (fJ [(false,[cL 1 y3 zA])] H)
def Q5 (n : Nat) (x0 : Pdu) : Option ((List Int) × Bool) :=
  ((Zs n x0.Binds).bind fun r1 => (bif (decide ((r1.length : Int) > 250)) then (some (([] : List Int),false)) else ((qi n x0.Id).bind fun r2 => ((zb n ([] : List Int) 2 r2).bind fun r3 => ((qi n x0.A).bind fun r4 => ((zb n r3 2 r4).bind fun r5 => ((qi n x0.B).bind fun r6 => ((zb n r5 2 r6).bind fun r7 => ((zb n r7 48 r1).bind fun r8 => (some (r8,(decide ((r8.length : Int) ≤ 250)))))))))))))
def zEL : Tab := ⟨14,[0,0,2,4,9,0,32,80,144,0,512,1280,2304,8191],[0,0,2,4,9,0,32,64,144,0,512,1024,2304,4096],[0,0,2,6,15,0,32,127,255,0,512,2047,4095,8191]⟩
theorem q3 : zp (rg Try.f84 4) zEL = true := kr
theorem zCK (n : Nat) (x0 : Pdu) (r : (List Int) × Bool) (H : Q5 n x0 = some r) : zJ Try.prog 84 [.val true (CV.frzRow (Pdu.row x0))] [.val false [.sl true 1 (r.1.map zA)],.val false [.lit (.bool r.2)]] [] := by
 refine cW Try.func84 (fun g d => sl [g 0,g 1,sl [g 2] (cn 11 (sl [g 3] .ret) .skip),d 4,g 5,g 6] .ret) [.tmp 2,.tmp 3] fun cx => ?_
 unfold Q5 at H
 refine gA 3 2 2 ?_
 refine rA 2 ?_
 obtain ⟨r1,er1,H⟩ := bs H
 refine vA [.rd] (zB2 n x0.Binds r1 er1) ?_
 refine LAt.moveU (T := lk tab) (ty := 33) (x := (.tmp 8)) (d := 4) (g := none) false [cL 1 r1 zA] kr kr kr kr kr ?_
 refine dA 18 2 ?_
 refine tS ?_
 refine rA 1 ?_
 refine kO r1 zA ?_
 refine uA 1 2066 2 ?_
 obtain ⟨h1,H⟩ | ⟨h1,H⟩ := bC H
 ·refine nA h1 ?_
  refine tK ?_
  obtain ⟨r2,er2,H⟩ := bs H
  obtain ⟨r3,er3,H⟩ := bs H
  obtain ⟨r4,er4,H⟩ := bs H
  obtain ⟨r5,er5,H⟩ := bs H
  obtain ⟨r6,er6,H⟩ := bs H
  obtain ⟨r7,er7,H⟩ := bs H
  refine Tr.draws mixed 14 kr ⟨33,0,[sC 5 (cL 1 r7 zA),sC 4 (cL 1 r1 zA)],[]⟩ (fun cx => ?_) ?_
  ·refine mA q3 [(1,[]),(2,[3,4,7,8,11,12]),(5,[]),(6,[7,8,11,12]),(9,[]),(10,[11,12])] 8 [⟨[11,12],3,22,23⟩,⟨[7,8,11,12],3,18,19⟩,⟨[3,4,7,8,11,12],3,14,15⟩] fun cx => ?_
   refine mB2 tOk q3 0 3 kr (And.intro kr ?_) (And.intro kr ?_)
   ·refine lA 1 ?_
    refine fA ?_
    refine mC q3 3 ?_
    refine vA [.rd] (ZH n x0.Id r2 er2) ?_
    refine fA ?_
    refine mC q3 4 ?_
    refine vA [.rd,.rd,.rd] (zi n ([] : List Int) 2 r2 r3 er3) ?_
    refine fA ?_
    refine mC q3 7 ?_
    refine vA [.rd] (ZH n x0.A r4 er4) ?_
    refine fA ?_
    refine mC q3 8 ?_
    refine vA [.rd,.rd,.rd] (zi n r3 2 r4 r5 er5) ?_
    refine fA ?_
    refine mC q3 11 ?_
    refine vA [.rd] (ZH n x0.B r6 er6) ?_
    refine fA ?_
    refine mC q3 12 ?_
    refine vA [.rd,.rd,.rd] (zi n r5 2 r6 r7 er7) ?_
    refine fA ?_
    refine mC q3 13 ?_
    refine LAt.moveU (T := lk tab) (ty := 33) (x := (.tmp 25)) (d := 5) (g := none) false [cL 1 r7 zA] kr kr kr kr kr ?_
    refine fA ?_
    exact mE q3 [5,4] []
   ·refine vA [.rd] (ZH n x0.Id r2 er2) ?_
    refine fA ?_
    refine mC q3 0 ?_
    refine lA 1 ?_
    refine fA ?_
    refine mC q3 4 ?_
    refine vA [.rd,.rd,.rd] (zi n ([] : List Int) 2 r2 r3 er3) ?_
    refine fA ?_
    refine mC q3 7 ?_
    refine vA [.rd] (ZH n x0.A r4 er4) ?_
    refine fA ?_
    refine mC q3 8 ?_
    refine vA [.rd,.rd,.rd] (zi n r3 2 r4 r5 er5) ?_
    refine fA ?_
    refine mC q3 11 ?_
    refine vA [.rd] (ZH n x0.B r6 er6) ?_
    refine fA ?_
    refine mC q3 12 ?_
    refine vA [.rd,.rd,.rd] (zi n r5 2 r6 r7 er7) ?_
    refine fA ?_
    refine mC q3 13 ?_
    refine LAt.moveU (T := lk tab) (ty := 33) (x := (.tmp 25)) (d := 5) (g := none) false [cL 1 r7 zA] kr kr kr kr kr ?_
    refine fA ?_
    exact mE q3 [5,4] []
  refine rA 2 ?_
  obtain ⟨r8,er8,H⟩ := bs H
  refine vB [.rd,.rd,.rd] [.slot 5,.slot 4] (zi n r7 48 r1 r8 er8) (.inr (zj (zL (ql (qL qH _)) za) z5)) ?_
  refine LAt.moveU (T := lk tab) (ty := 33) (x := (.tmp 28)) (d := 5) (g := none) false [cL 1 r8 zA] kr kr kr kr kr ?_
  refine dA 32 0 ?_
  refine rA 2 ?_
  refine kO r8 zA ?_
  refine uA 3 44 0 ?_
  exact te (fJ [(false,[cL 1 r8 zA]),(false,[cB (decide ((r8.length : Int) ≤ 250))])] H)
 refine tA h1 ?_
 refine rA 1 ?_
 refine LAt.moveU (T := lk tab) (ty := 33) (x := (.tmp 12)) (d := 2) (g := none) false [cL 1 ([] : List Int) zA] kr kr kr kr kr ?_
 refine uA 1 12 0 ?_
 exact te (fJ [(false,[cL 1 ([] : List Int) zA]),(false,[cB false])] H)
def QH (n : Nat) (x0 : Pdu) : Option ((List Int)) :=
  ((Qf n x0).bind fun r1 => (bif (!r1) then (some ([] : List Int)) else ((Q5 n x0).bind fun r2 => (bif (!r2.2) then (some ([] : List Int)) else ((zb n ([] : List Int) x0.Ki r2.1).bind fun r3 => (some r3))))))
theorem zCJ (n : Nat) (x0 : Pdu) (r : (List Int)) (H : QH n x0 = some r) : zJ Try.prog 42 [.val true (CV.frzRow (Pdu.row x0))] [.val false [.sl true 1 (r.map zA)]] [] := by
 refine cW Try.func42 (fun g d => sl [g 0,sl [g 1] (cn 7 (sl [g 2] .ret) .skip),g 3,sl [g 4] (cn 15 (sl [g 5] .ret) .skip),g 6] .ret) [.tmp 2] fun cx => ?_
 unfold QH at H
 refine gA 2 2 2 ?_
 refine tS ?_
 refine rA 1 ?_
 obtain ⟨r1,er1,H⟩ := bs H
 refine vA [.rd] (zC0 n x0 r1 er1) ?_
 refine uA 1 130 2 ?_
 obtain ⟨h1,H⟩ | ⟨h1,H⟩ := bC H
 ·refine nA h1 ?_
  refine tK ?_
  refine rA 1 ?_
  obtain ⟨r2,er2,H⟩ := bs H
  refine vA [.rd] (zCK n x0 r2 er2) ?_
  refine LAt.movT tOk (ty := 129) (t := 11) (d := 9) (g := none) [(false,[cL 1 r2.1 zA]),(false,[cB r2.2])] _ kr (.inl rfl) kr kr kr kr rfl ?_
  refine lA 2 ?_
  refine LAt.moveU (T := lk tab) (ty := 33) (x := (.tmp 12)) (d := 3) (g := none) false [cL 1 r2.1 zA] kr kr kr kr kr ?_
  refine uA 1 26 2 ?_
  refine tS ?_
  refine gA 2 32778 2 ?_
  obtain ⟨h2,H⟩ | ⟨h2,H⟩ := bC H
  ·refine nA h2 ?_
   refine tK ?_
   refine rA 4 ?_
   obtain ⟨r3,er3,H⟩ := bs H
   refine vB [.rd,.rd,.rd] [.slot 3] (zi n ([] : List Int) x0.Ki r2.1 r3 er3) (.inr (zj (zL (ql (qL qH _)) za) z5)) ?_
   refine LAt.moveU (T := lk tab) (ty := 33) (x := (.tmp 21)) (d := 2) (g := none) false [cL 1 r3 zA] kr kr kr kr kr ?_
   refine dA 4 0 ?_
   exact te (fJ [(false,[cL 1 r3 zA])] H)
  refine tA h2 ?_
  refine rA 1 ?_
  refine LAt.moveU (T := lk tab) (ty := 33) (x := (.tmp 16)) (d := 2) (g := none) false [cL 1 ([] : List Int) zA] kr kr kr kr kr ?_
  refine dA 4 0 ?_
  exact te (fJ [(false,[cL 1 ([] : List Int) zA])] H)
 refine tA h1 ?_
 refine rA 1 ?_
 refine LAt.moveU (T := lk tab) (ty := 33) (x := (.tmp 8)) (d := 2) (g := none) false [cL 1 ([] : List Int) zA] kr kr kr kr kr ?_
 refine dA 4 0 ?_
 exact te (fJ [(false,[cL 1 ([] : List Int) zA])] H)
def YV (n : Nat) (x0 : Pdu) : Option (Bool) :=
  ((QH n x0).bind fun r1 => ((qW n (r1.length : Int) 1 120).bind fun r2 => (some r2)))
theorem zDT (n : Nat) (x0 : Pdu) (r : Bool) (H : YV n x0 = some r) : zJ Try.prog 9 [.val true (CV.frzRow (Pdu.row x0))] [.val false [.lit (.bool r)]] [] := by
 refine cW Try.func9 (fun g d => sl [g 0,g 1] .ret) [.tmp 2] fun cx => ?_
 unfold YV at H
 refine gA 2 2 2 ?_
 refine rA 1 ?_
 obtain ⟨r1,er1,H⟩ := bs H
 refine vA [.rd] (zCJ n x0 r1 er1) ?_
 refine kO r1 zA ?_
 obtain ⟨r2,er2,H⟩ := bs H
 refine vA [.rd,.rd,.rd] (ZD n (r1.length : Int) 1 120 r2 er2) ?_
 refine uA 1 4 0 ?_
 exact te (fJ [(false,[cB r2])] H)
def qp (n : Nat) (x0 : Int) (x1 : Int) (x2 : Int) : Option (Bool) :=
  (bif (decide (x0 ≥ x1)) then (some (decide (x0 ≤ x2))) else (some false))
theorem QP (n : Nat) (x0 : Int) (x1 : Int) (x2 : Int) (r : Bool) (H : qp n x0 x1 x2 = some r) : zJ Try.prog 44 [.val false [.lit (.int .i64 x0)],.val false [.lit (.int .i64 x1)],.val false [.lit (.int .i64 x2)]] [.val false [.lit (.bool r)]] [] := by
 refine cW Try.func44 (fun g d => sl [g 0,g 1] .ret) [.tmp 6] fun cx => ?_
 unfold qp at H
 refine gA 1 7 0 ?_
 refine rA 4 ?_
 refine sL 1029 0 ⟨15,0,[sB 10 (decide (x0 ≥ x1)),sI 0 x0,sI 2 x2],[]⟩ ?_
 cases h1 : (decide (x0 ≥ x1))
 ·have H := zX h1 H
  refine uA 5 64 0 ?_
  exact te (fF H)
 have H := zY h1 H
 refine uA 5 64 0 ?_
 exact te (fJ [(false,[cB (decide (x0 ≤ x2))])] H)
def Qk (n : Nat) (x0 : (List Int)) : Option (Bool) :=
  ((qp n (x0.length : Int) 1 10).bind fun r2 => (some r2))
def qm (n : Nat) : Nat → (List Int) → Int → Option ((Unit) ⊕ (Bool))
  | 0,_,_ => none
  | mo3 + 1,x0,y1 => (bif (decide (y1 < (x0.length : Int))) then ((idx x0 y1).bind fun v4 => ((qp n v4 0 100000).bind fun r5 => (bif (!r5) then (some (Sum.inr false)) else (qm n mo3 x0 (IntKind.wrap .i64 (y1 + 1)))))) else (some (Sum.inl ())))
def ZE (n : Nat) (x0 : (List Int)) : Option (Bool) :=
  ((qm n n x0 0).bind fun o => match o with | .inl _ => (Qk n x0) | .inr r => some r)
theorem JK (n : Nat) (x0 : (List Int)) (r : Bool) (H : ZE n x0 = some r) : zJ Try.prog 141 [.val false [.sl false 1 (CV.frzEs (x0.map intRow))]] [.val false [.lit (.bool r)]] [] := by
 refine cW Try.func141 (fun g d => sl [g 0,sl [g 1] (.block 0 (.loop (sl [g 2,cn 8 .skip (.exit 0),.block 1 (sl [g 3,g 4] (cn 13 (sl [g 5] .ret) .skip))] (g 6)))),g 7] .ret) [.tmp 2] fun cx => ?_
 unfold ZE at H
 refine gA 1 1 0 ?_
 refine tS ?_
 refine rA 1 ?_
 refine kF x0 intRow ?_
 refine uA 1 225 0 ?_
 obtain ⟨o3,eo3,Ho3⟩ := bs H
 clear H
 refine Tr.mid (ι := Unit) (fun v => ⟨18,0,[sC 0 (cF 1 x0 intRow)],[]⟩) (fun v => Qk n x0 = some r) ?_ ?_
 ·refine tB ?_
  refine Tr.loop (ι := Nat × (Int)) (fun v => ⟨18,0,[sI 7 v.2,sI 6 (x0.length : Int),sC 5 (cF 1 x0 intRow),sC 0 (cF 1 x0 intRow)],[]⟩) (fun v => qm n v.1 x0 v.2 = some o3) (fun v => v.1) (n,0) eo3 (St.sub_of [7,6,5,0] [] kr) ?_
  rintro ⟨mo3,y1⟩ H
  have H : qm n mo3 x0 y1 = some o3 := H
  obtain _ | mo3 := mo3
  ·exact nN H
  rw [qm] at H
  refine gA 1 481 0 ?_
  refine tS ?_
  obtain ⟨h1,H⟩ | ⟨h1,H⟩ := bC H
  ·refine nA h1 ?_
   refine Tr.exit ?_
   refine aJ ?_
   obtain rfl := si H
   have H := Ho3
   dsimp only at H
   exact jA () H [0] []
  refine tA h1 ?_
  refine tK ?_
  refine tS ?_
  refine tB ?_
  refine tR ?_
  obtain ⟨v4,ev4,H⟩ := bs H
  refine iA intRow ev4 ?_
  refine uA 2 241 0 ?_
  refine rA 1 ?_
  obtain ⟨r5,er5,H⟩ := bs H
  refine vA [.rd,.rd,.rd] (QP n v4 0 100000 r5 er5) ?_
  refine uA 1 8417 0 ?_
  obtain ⟨h2,H⟩ | ⟨h2,H⟩ := bC H
  ·refine nA h2 ?_
   refine tK ?_
   refine eA 2 225 0 ?_
   exact jB mo3 (IntKind.wrap .i64 (y1 + 1)) H [7,6,5,0] []
  refine tA h2 ?_
  refine gA 1 4 0 ?_
  refine te ?_
  obtain rfl := si H
  have H := Ho3
  dsimp only at H
  exact fF H
 rintro _ H
 have H : (Qk n x0) = some r := H
 unfold Qk at H
 refine rA 1 ?_
 refine kF x0 intRow ?_
 obtain ⟨r2,er2,H⟩ := bs H
 refine vA [.rd,.rd,.rd] (QP n (x0.length : Int) 1 10 r2 er2) ?_
 refine uA 1 4 0 ?_
 exact te (fJ [(false,[cB r2])] H)
def Zu (n : Nat) (x0 : Int) : Option (Bool) :=
  ((qp n x0 (-2147483648) 2147483647).bind fun r1 => (some r1))
theorem zAl (n : Nat) (x0 : Int) (r : Bool) (H : Zu n x0 = some r) : zJ Try.prog 143 [.val false [.lit (.int .i64 x0)]] [.val false [.lit (.bool r)]] [] := by
 refine cW Try.func143 (fun g d => sl [g 0,g 1] .ret) [.tmp 2] fun cx => ?_
 unfold Zu at H
 refine gA 1 1 0 ?_
 refine rA 1 ?_
 obtain ⟨r1,er1,H⟩ := bs H
 refine vA [.rd,.rd,.rd] (QP n x0 (-2147483648) 2147483647 r1 er1) ?_
 refine uA 1 4 0 ?_
 exact te (fJ [(false,[cB r1])] H)
def Zx (n : Nat) : Option (Bool) :=
  (some true)
def qD (n : Nat) : Nat → (List Int) → (List Int) → Int → Option ((Unit) ⊕ (Bool))
  | 0,_,_,_ => none
  | mo2 + 1,x0,x1,y1 => (bif (decide (y1 < (x0.length : Int))) then ((idx x0 y1).bind fun v3 => ((idx x1 y1).bind fun v4 => (bif (v3 != v4) then (some (Sum.inr false)) else (qD n mo2 x0 x1 (IntKind.wrap .i64 (y1 + 1)))))) else (some (Sum.inl ())))
def qo (n : Nat) (x0 : (List Int)) (x1 : (List Int)) : Option (Bool) :=
  (bif ((x0.length : Int) != (x1.length : Int)) then (some false) else ((qD n n x0 x1 0).bind fun o => match o with | .inl _ => (Zx n) | .inr r => some r))
theorem zBj (n : Nat) (x0 : (List Int)) (x1 : (List Int)) (r : Bool) (H : qo n x0 x1 = some r) : zJ Try.prog 29 [.val false [.sl false 1 (CV.frzEs (x0.map intRow))],.val false [.sl false 1 (CV.frzEs (x1.map intRow))]] [.val false [.lit (.bool r)]] [] := by
 refine cW Try.func29 (fun g d => sl [g 0,sl [g 1] (cn 10 (sl [g 2] .ret) .skip),sl [g 3] (.block 0 (.loop (sl [g 4,cn 14 .skip (.exit 0),.block 1 (sl [g 5,d 6] (cn 24 (sl [g 7] .ret) .skip))] (g 8)))),g 9] .ret) [.tmp 4] fun cx => ?_
 unfold qo at H
 refine gA 1 3 0 ?_
 refine tS ?_
 refine rA 1 ?_
 refine kF x0 intRow ?_
 refine lA 1 ?_
 refine kF x1 intRow ?_
 refine uA 1 1027 0 ?_
 obtain ⟨h1,H⟩ | ⟨h1,H⟩ := bC H
 ·refine nA h1 ?_
  refine tK ?_
  refine tS ?_
  refine rA 1 ?_
  refine kF x0 intRow ?_
  refine uA 1 12291 0 ?_
  obtain ⟨o2,eo2,Ho2⟩ := bs H
  clear H
  refine Tr.mid (ι := Unit) (fun v => ⟨26,0,[],[]⟩) (fun v => Zx n = some r) ?_ ?_
  ·refine tB ?_
   refine Tr.loop (ι := Nat × (Int)) (fun v => ⟨26,0,[sI 13 v.2,sI 12 (x0.length : Int),sC 0 (cF 1 x0 intRow),sC 1 (cF 1 x1 intRow)],[]⟩) (fun v => qD n v.1 x0 x1 v.2 = some o2) (fun v => v.1) (n,0) eo2 (St.sub_of [13,12,0,1] [] kr) ?_
   rintro ⟨mo2,y1⟩ H
   have H : qD n mo2 x0 x1 y1 = some o2 := H
   obtain _ | mo2 := mo2
   ·exact nN H
   rw [qD] at H
   refine gA 1 28675 0 ?_
   refine tS ?_
   obtain ⟨h2,H⟩ | ⟨h2,H⟩ := bC H
   ·refine nA h2 ?_
    refine Tr.exit ?_
    refine aJ ?_
    obtain rfl := si H
    have H := Ho2
    dsimp only at H
    exact jA () H [] []
   refine tA h2 ?_
   refine tK ?_
   refine tS ?_
   refine tB ?_
   refine gA 2 12323 0 ?_
   obtain ⟨v3,ev3,H⟩ := bs H
   obtain ⟨v4,ev4,H⟩ := bs H
   refine Tr.draws mixed 9 kr ⟨26,0,[sB 24 (v3 != v4),sI 13 y1,sI 12 (x0.length : Int),sC 0 (cF 1 x0 intRow),sC 1 (cF 1 x1 intRow)],[]⟩ (fun cx => ?_) ?_
   ·refine aA [(0,[]),(1,[])] 7 [] fun cx => ?_
    refine aI tOk 2 38 0 16 17 18 none ⟨(.slot 16),[],0,false,1,(CV.frzEs (x0.map intRow))⟩ y1 [cI v3] _ kr kr kr kr kr kr rfl (Qs ev3) rfl (fun cx => ?_)
    refine aA [(3,[]),(4,[]),(5,[])] 3 [] fun cx => ?_
    refine aI tOk 6 38 0 20 21 22 none ⟨(.slot 20),[],0,false,1,(CV.frzEs (x1.map intRow))⟩ y1 [cI v4] _ kr kr kr kr kr kr rfl (Qs ev4) rfl (fun cx => ?_)
    refine aA [(7,[]),(8,[])] 0 [] fun cx => ?_
    exact eE [24,13,12,0,1] []
   refine sT ⟨26,0,[sB 24 (v3 != v4),sI 13 y1,sI 12 (x0.length : Int),sC 0 (cF 1 x0 intRow),sC 1 (cF 1 x1 intRow)],[]⟩ ?_
   cases h3 : (v3 != v4)
   ·have H := zX h3 H
    refine nB_ ?_
    refine tK ?_
    refine eA 2 12291 0 ?_
    exact jB mo2 (IntKind.wrap .i64 (y1 + 1)) H [13,12,0,1] []
   have H := zY h3 H
   refine tB_ ?_
   refine gA 1 16 0 ?_
   refine te ?_
   obtain rfl := si H
   have H := Ho2
   dsimp only at H
   exact fF H
  rintro _ H
  have H : (Zx n) = some r := H
  unfold Zx at H
  refine gA 1 16 0 ?_
  exact te (fT H)
 refine tA h1 ?_
 refine gA 1 16 0 ?_
 exact te (fF H)
def qK (n : Nat) (x0 : Val) (x1 : Val) : Option (Bool) :=
  (bif (x0.K == x1.K) then (bif (x0.N == x1.N) then (bif (x0.S.toList == x1.S.toList) then ((qo n x0.O x1.O).bind fun r1 => (some r1)) else (some false)) else (some false)) else (some false))
theorem ZO (n : Nat) (x0 : Val) (x1 : Val) (r : Bool) (H : qK n x0 x1 = some r) : zJ Try.prog 30 [.val true (CV.frzRow (Val.row x0)),.val true (CV.frzRow (Val.row x1))] [.val false [.lit (.bool r)]] [] := by
 refine cW Try.func30 (fun g d => sl [g 0,g 1] .ret) [.tmp 4] fun cx => ?_
 unfold qK at H
 refine gA 3 12 12 ?_
 refine rA 6 ?_
 refine sL 1036 12 ⟨31,0,[sB 10 (x0.K == x1.K),sA 3 3 4 0,sA 2 2 4 0],[(3,(CV.frzRow (Val.row x1))),(2,(CV.frzRow (Val.row x0)))]⟩ ?_
 cases h1 : (x0.K == x1.K)
 ·have H := zX h1 H
  refine uA 21 16 0 ?_
  exact te (fF H)
 have H := zY h1 H
 refine lA 7 ?_
 refine sL 131084 12 ⟨31,0,[sB 17 (x0.N == x1.N),sA 3 3 4 0,sA 2 2 4 0],[(3,(CV.frzRow (Val.row x1))),(2,(CV.frzRow (Val.row x0)))]⟩ ?_
 cases h2 : (x0.N == x1.N)
 ·have H := zX h2 H
  refine uA 14 16 0 ?_
  exact te (fF H)
 have H := zY h2 H
 refine lA 7 ?_
 refine sL 16777228 12 ⟨31,0,[sB 24 (x0.S.toList == x1.S.toList),sA 3 3 4 0,sA 2 2 4 0],[(3,(CV.frzRow (Val.row x1))),(2,(CV.frzRow (Val.row x0)))]⟩ ?_
 cases h3 : (x0.S.toList == x1.S.toList)
 ·have H := zX h3 H
  refine uA 7 16 0 ?_
  exact te (fF H)
 have H := zY h3 H
 refine lA 4 ?_
 obtain ⟨r1,er1,H⟩ := bs H
 refine vA [.rd,.rd] (zBj n x0.O x1.O r1 er1) ?_
 refine uA 2 16 0 ?_
 exact te (fJ [(false,[cB r1])] H)
def qJ (n : Nat) (x0 : Val) : Option (Bool) :=
  (bif (x0.K == 2) then ((Zu n x0.N).bind fun r7 => (bif r7 then ((qK n x0 (⟨x0.K,x0.N,(⟨#[]⟩ : ByteArray),([] : List Int)⟩ : Val)).bind fun r8 => (some r8)) else (some false))) else (bif (x0.K == 4) then (bif (decide ((x0.S.size : Int) ≤ 20)) then ((qK n x0 (⟨x0.K,0,x0.S,([] : List Int)⟩ : Val)).bind fun r6 => (some r6)) else (some false)) else (bif (x0.K == 6) then ((ZE n x0.O).bind fun r4 => (bif r4 then ((qK n x0 (⟨x0.K,0,(⟨#[]⟩ : ByteArray),x0.O⟩ : Val)).bind fun r5 => (some r5)) else (some false))) else (bif (x0.K == 5) then ((qK n x0 (⟨x0.K,0,(⟨#[]⟩ : ByteArray),([] : List Int)⟩ : Val)).bind fun r3 => (some r3)) else (bif (x0.K == 128) then ((qK n x0 (⟨x0.K,0,(⟨#[]⟩ : ByteArray),([] : List Int)⟩ : Val)).bind fun r2 => (some r2)) else (bif (x0.K == 130) then ((qK n x0 (⟨x0.K,0,(⟨#[]⟩ : ByteArray),([] : List Int)⟩ : Val)).bind fun r1 => (some r1)) else (some false)))))))
theorem zAk (n : Nat) (x0 : Val) (r : Bool) (H : qJ n x0 = some r) : zJ Try.prog 142 [.val true (CV.frzRow (Val.row x0))] [.val false [.lit (.bool r)]] [] := by
 refine cW Try.func142 (fun g d => sl [g 0,g 1,g 2,sl [g 3] (.block 0 (sl [g 5] (cn 10 (sl [g 6] (g 7)) (sl [g 8] (cn 18 (sl [g 9] (g 10)) (sl [g 11] (cn 27 (sl [g 12] (g 13)) (sl [sl [g 14] (cn 35 .skip (sl [g 15] (cn 35 .skip (g 16))))] (cn 35 .skip (sl [g 4] .ret)))))))))),g 17] .ret) [.tmp 2] fun cx => ?_
 unfold qJ at H
 refine gA 2 2 2 ?_
 refine gA 5 10 10 ?_
 refine gA 1 26 10 ?_
 refine tS ?_
 refine gA 2 538 10 ?_
 refine tB ?_
 refine gA 2 1562 10 ?_
 obtain ⟨h1,H⟩ | ⟨h1,H⟩ := bC H
 ·refine nA h1 ?_
  refine gA 2 262682 10 ?_
  obtain ⟨h2,H⟩ | ⟨h2,H⟩ := bC H
  ·refine nA h2 ?_
   refine gA 2 134218266 10 ?_
   obtain ⟨h3,H⟩ | ⟨h3,H⟩ := bC H
   ·refine nA h3 ?_
    refine tS ?_
    refine gA 2 34359738906 10 ?_
    refine sT ⟨45,0,[sB 35 (x0.K == 5),sI 9 x0.K,sB 4 true,sA 3 3 4 0,sA 1 1 4 0],[(3,[cI x0.K,cI 0,cS (⟨#[]⟩ : ByteArray),cL 1 ([] : List Int) intRow]),(1,(CV.frzRow (Val.row x0)))]⟩ ?_
    cases h4 : (x0.K == 5)
    ·have H := zX h4 H
     refine nB_ ?_
     refine gA 2 34359738906 10 ?_
     refine sT ⟨45,0,[sB 35 (x0.K == 128),sI 9 x0.K,sB 4 true,sA 3 3 4 0,sA 1 1 4 0],[(3,[cI x0.K,cI 0,cS (⟨#[]⟩ : ByteArray),cL 1 ([] : List Int) intRow]),(1,(CV.frzRow (Val.row x0)))]⟩ ?_
     cases h5 : (x0.K == 128)
     ·have H := zX h5 H
      refine nB_ ?_
      refine eA 2 34359738394 10 ?_
      obtain ⟨h6,H⟩ | ⟨h6,H⟩ := bC H
      ·refine nA h6 ?_
       refine gA 1 4 0 ?_
       exact te (fF H)
      refine tA h6 ?_
      refine tK ?_
      refine rA 4 ?_
      obtain ⟨r1,er1,H⟩ := bs H
      refine vB [.rd,.rd] [.box 3] (ZO n x0 (⟨x0.K,0,(⟨#[]⟩ : ByteArray),([] : List Int)⟩ : Val) r1 er1) (.inr (zj (zL zm za) z5)) ?_
      refine uA 2 4 0 ?_
      exact te (fJ [(false,[cB r1])] H)
     have H := zY h5 H
     refine tB_ ?_
     refine tK ?_
     refine tB_ ?_
     refine tK ?_
     refine rA 4 ?_
     obtain ⟨r2,er2,H⟩ := bs H
     refine vB [.rd,.rd] [.box 3] (ZO n x0 (⟨x0.K,0,(⟨#[]⟩ : ByteArray),([] : List Int)⟩ : Val) r2 er2) (.inr (zj (zL zm za) z5)) ?_
     refine uA 2 4 0 ?_
     exact te (fJ [(false,[cB r2])] H)
    have H := zY h4 H
    refine tB_ ?_
    refine tK ?_
    refine tB_ ?_
    refine tK ?_
    refine rA 4 ?_
    obtain ⟨r3,er3,H⟩ := bs H
    refine vB [.rd,.rd] [.box 3] (ZO n x0 (⟨x0.K,0,(⟨#[]⟩ : ByteArray),([] : List Int)⟩ : Val) r3 er3) (.inr (zj (zL zm za) z5)) ?_
    refine uA 2 4 0 ?_
    exact te (fJ [(false,[cB r3])] H)
   refine tA h3 ?_
   refine gA 4 10 10 ?_
   refine Tr.at ?_
   refine lA 2 ?_
   obtain ⟨r4,er4,H⟩ := bs H
   refine vA [.rd] (JK n x0.O r4 er4) ?_
   refine uA 1 26 10 ?_
   refine rA 2 ?_
   refine sL 1099511627786 10 ⟨45,0,[sB 40 r4,sA 3 3 4 0,sA 1 1 4 0],[(3,[cI x0.K,cI 0,cS (⟨#[]⟩ : ByteArray),cF 1 x0.O intRow]),(1,(CV.frzRow (Val.row x0)))]⟩ ?_
   cases h7 : r4
   ·have H := zX h7 H
    refine uA 5 4 0 ?_
    exact te (fF H)
   have H := zY h7 H
   refine lA 2 ?_
   obtain ⟨r5,er5,H⟩ := bs H
   refine vA [.rd,.rd] (ZO n x0 (⟨x0.K,0,(⟨#[]⟩ : ByteArray),x0.O⟩ : Val) r5 er5) ?_
   refine uA 2 4 0 ?_
   exact te (fJ [(false,[cB r5])] H)
  refine tA h2 ?_
  refine gA 4 10 10 ?_
  refine eA 5 26 10 ?_
  refine rA 2 ?_
  refine sL 1099511627786 10 ⟨45,0,[sB 40 (decide ((x0.S.size : Int) ≤ 20)),sA 3 3 4 0,sA 1 1 4 0],[(3,[cI x0.K,cI 0,cS x0.S,cL 1 ([] : List Int) intRow]),(1,(CV.frzRow (Val.row x0)))]⟩ ?_
  cases h8 : (decide ((x0.S.size : Int) ≤ 20))
  ·have H := zX h8 H
   refine uA 5 4 0 ?_
   exact te (fF H)
  have H := zY h8 H
  refine lA 2 ?_
  obtain ⟨r6,er6,H⟩ := bs H
  refine vB [.rd,.rd] [.box 3] (ZO n x0 (⟨x0.K,0,x0.S,([] : List Int)⟩ : Val) r6 er6) (.inr (zj (zL zm za) z5)) ?_
  refine uA 2 4 0 ?_
  exact te (fJ [(false,[cB r6])] H)
 refine tA h1 ?_
 refine gA 4 10 10 ?_
 refine Tr.at ?_
 refine lA 2 ?_
 obtain ⟨r7,er7,H⟩ := bs H
 refine vA [.rd] (zAl n x0.N r7 er7) ?_
 refine uA 1 26 10 ?_
 refine rA 2 ?_
 refine sL 1099511627786 10 ⟨45,0,[sB 40 r7,sA 3 3 4 0,sA 1 1 4 0],[(3,[cI x0.K,cI x0.N,cS (⟨#[]⟩ : ByteArray),cL 1 ([] : List Int) intRow]),(1,(CV.frzRow (Val.row x0)))]⟩ ?_
 cases h9 : r7
 ·have H := zX h9 H
  refine uA 5 4 0 ?_
  exact te (fF H)
 have H := zY h9 H
 refine lA 2 ?_
 obtain ⟨r8,er8,H⟩ := bs H
 refine vB [.rd,.rd] [.box 3] (ZO n x0 (⟨x0.K,x0.N,(⟨#[]⟩ : ByteArray),([] : List Int)⟩ : Val) r8 er8) (.inr (zj (zL zm za) z5)) ?_
 refine uA 2 4 0 ?_
 exact te (fJ [(false,[cB r8])] H)
def Zl (n : Nat) (x0 : Pdu) : Option (Bool) :=
  ((Zu n x0.Id).bind fun r2 => (some r2))
def zw (n : Nat) : Nat → Pdu → Int → Option ((Unit) ⊕ (Bool))
  | 0,_,_ => none
  | mo3 + 1,x0,y1 => (bif (decide (y1 < (x0.Binds.length : Int))) then ((idx x0.Binds y1).bind fun v4 => (bif (decide (y1 ≥ 10)) then (some (Sum.inr false)) else ((ZE n v4.O).bind fun r5 => (bif (!r5) then (some (Sum.inr false)) else ((qJ n v4.V).bind fun r6 => (bif (!r6) then (some (Sum.inr false)) else (zw n mo3 x0 (IntKind.wrap .i64 (y1 + 1))))))))) else (some (Sum.inl ())))
def q7 (n : Nat) (x0 : Pdu) : Option (Bool) :=
  ((zw n n x0 0).bind fun o => match o with | .inl _ => (Zl n x0) | .inr r => some r)
def q8 (n : Nat) (x0 : Pdu) (y8 : Bool) : Option (Bool) :=
  (bif y8 then ((qp n x0.A 0 1000).bind fun r9 => (bif (!r9) then (some false) else ((qp n x0.B 0 1000).bind fun r10 => (bif (!r10) then (some false) else (q7 n x0))))) else (some false))
def qn (n : Nat) (x0 : Pdu) (y7 : Bool) : Option (Bool) :=
  (bif y7 then (bif (x0.A != 0) then (some false) else (bif (x0.B != 0) then (some false) else (q7 n x0))) else (bif (x0.Ki == 162) then (q8 n x0 true) else (q8 n x0 (x0.Ki == 165))))
def QX (n : Nat) (x0 : Pdu) : Option (Bool) :=
  (bif (x0.Ki == 160) then (qn n x0 true) else (bif (x0.Ki == 161) then (qn n x0 true) else (qn n x0 (x0.Ki == 163))))
theorem zCk (n : Nat) (x0 : Pdu) (r : Bool) (H : QX n x0 = some r) : zJ Try.prog 87 [.val true (CV.frzRow (Pdu.row x0))] [.val false [.lit (.bool r)]] [] := by
 refine cW Try.func87 (fun g d => sl [g 0,sl [g 1] (.block 0 (sl [sl [g 3] (cn 7 .skip (sl [g 4] (cn 7 .skip (g 5))))] (cn 7 (sl [g 6] (cn 18 (sl [g 7] .ret) .skip)) (sl [sl [g 8] (cn 19 .skip (g 9))] (cn 19 (sl [g 10] (cn 31 (sl [g 11] .ret) .skip)) (sl [g 2] .ret)))))),sl [g 12] (.block 1 (.loop (sl [g 13,cn 36 .skip (.exit 1),.block 2 (sl [g 14,g 15] (cn 53 (sl [g 16] .ret) .skip))] (g 17)))),g 18] .ret) [.tmp 2] fun cx => ?_
 unfold QX at H
 refine gA 2 2 2 ?_
 refine tS ?_
 refine Tr.mid (ι := Unit) (fun v => ⟨58,0,[sA 1 1 5 0],[(1,(CV.frzRow (Pdu.row x0)))]⟩) (fun v => q7 n x0 = some r) ?_ ?_
 ·refine gA 2 66 2 ?_
  refine tB ?_
  refine tS ?_
  refine Tr.mid (ι := Bool) (fun v => ⟨58,0,[sB 7 v,sI 6 x0.Ki,sA 1 1 5 0],[(1,(CV.frzRow (Pdu.row x0)))]⟩) (fun v => qn n x0 v = some r) ?_ ?_
  ·refine gA 2 194 2 ?_
   refine sT ⟨58,0,[sB 7 (x0.Ki == 160),sI 6 x0.Ki,sA 1 1 5 0],[(1,(CV.frzRow (Pdu.row x0)))]⟩ ?_
   cases h12 : (x0.Ki == 160)
   ·have H := zX h12 H
    refine nB_ ?_
    refine gA 2 194 2 ?_
    refine sT ⟨58,0,[sB 7 (x0.Ki == 161),sI 6 x0.Ki,sA 1 1 5 0],[(1,(CV.frzRow (Pdu.row x0)))]⟩ ?_
    cases h13 : (x0.Ki == 161)
    ·have H := zX h13 H
     refine nB_ ?_
     refine eA 2 194 2 ?_
     exact jA (x0.Ki == 163) H [7,6,1] [1]
    have H := zY h13 H
    refine tB_ ?_
    refine tK ?_
    exact jA true H [7,6,1] [1]
   have H := zY h12 H
   refine tB_ ?_
   refine tK ?_
   exact jA true H [7,6,1] [1]
  rintro y7 H
  have H : (qn n x0 y7) = some r := H
  unfold qn at H
  cases h5 : y7
  ·have H := zX h5 H
   refine nB_ ?_
   refine tS ?_
   refine Tr.mid (ι := Bool) (fun v => ⟨58,0,[sB 19 v,sA 1 1 5 0],[(1,(CV.frzRow (Pdu.row x0)))]⟩) (fun v => q8 n x0 v = some r) ?_ ?_
   ·refine gA 2 524354 2 ?_
    refine sT ⟨58,0,[sB 19 (x0.Ki == 162),sI 6 x0.Ki,sA 1 1 5 0],[(1,(CV.frzRow (Pdu.row x0)))]⟩ ?_
    cases h9 : (x0.Ki == 162)
    ·have H := zX h9 H
     refine nB_ ?_
     refine eA 2 524290 2 ?_
     exact jA (x0.Ki == 165) H [19,1] [1]
    have H := zY h9 H
    refine tB_ ?_
    refine tK ?_
    exact jA true H [19,1] [1]
   rintro y8 H
   have H : (q8 n x0 y8) = some r := H
   unfold q8 at H
   cases h6 : y8
   ·have H := zX h6 H
    refine nB_ ?_
    refine gA 1 4 0 ?_
    exact te (fF H)
   have H := zY h6 H
   refine tB_ ?_
   refine rA 2 ?_
   obtain ⟨r9,er9,H⟩ := bs H
   refine vA [.rd,.rd,.rd] (QP n x0.A 0 1000 r9 er9) ?_
   refine lA 2 ?_
   refine sL 67108866 2 ⟨58,0,[sB 26 (!r9),sA 1 1 5 0],[(1,(CV.frzRow (Pdu.row x0)))]⟩ ?_
   cases h7 : (!r9)
   ·have H := zX h7 H
    refine lA 2 ?_
    obtain ⟨r10,er10,H⟩ := bs H
    refine vA [.rd,.rd,.rd] (QP n x0.B 0 1000 r10 er10) ?_
    refine uA 2 2147483650 2 ?_
    obtain ⟨h8,H⟩ | ⟨h8,H⟩ := bC H
    ·refine nA h8 ?_
     refine tK ?_
     exact jA () H [1] [1]
    refine tA h8 ?_
    refine gA 1 4 0 ?_
    exact te (fF H)
   have H := zY h7 H
   refine uA 5 2147483650 2 ?_
   refine tB_ ?_
   refine gA 1 4 0 ?_
   exact te (fF H)
  have H := zY h5 H
  refine tB_ ?_
  refine rA 4 ?_
  refine sL 16386 2 ⟨58,0,[sB 14 (x0.A != 0),sA 1 1 5 0],[(1,(CV.frzRow (Pdu.row x0)))]⟩ ?_
  cases h10 : (x0.A != 0)
  ·have H := zX h10 H
   refine uA 4 262146 2 ?_
   obtain ⟨h11,H⟩ | ⟨h11,H⟩ := bC H
   ·refine nA h11 ?_
    refine tK ?_
    exact jA () H [1] [1]
   refine tA h11 ?_
   refine gA 1 4 0 ?_
   exact te (fF H)
  have H := zY h10 H
  refine uA 4 262146 2 ?_
  refine tB_ ?_
  refine gA 1 4 0 ?_
  exact te (fF H)
 rintro _ H
 have H : (q7 n x0) = some r := H
 unfold q7 at H
 refine tS ?_
 refine rA 2 ?_
 refine kF x0.Binds zC.row ?_
 refine uA 1 60129542146 2 ?_
 obtain ⟨o3,eo3,Ho3⟩ := bs H
 clear H
 refine Tr.mid (ι := Unit) (fun v => ⟨58,0,[sA 1 1 5 0],[(1,(CV.frzRow (Pdu.row x0)))]⟩) (fun v => Zl n x0 = some r) ?_ ?_
 ·refine tB ?_
  refine Tr.loop (ι := Nat × (Int)) (fun v => ⟨58,0,[sI 35 v.2,sI 34 (x0.Binds.length : Int),sC 33 (cF 5 x0.Binds zC.row),sA 1 1 5 0],[(1,(CV.frzRow (Pdu.row x0)))]⟩) (fun v => zw n v.1 x0 v.2 = some o3) (fun v => v.1) (n,0) eo3 (St.sub_of [35,34,33,1] [1] kr) ?_
  rintro ⟨mo3,y1⟩ H
  have H : zw n mo3 x0 y1 = some o3 := H
  obtain _ | mo3 := mo3
  ·exact nN H
  rw [zw] at H
  refine gA 1 128849018882 2 ?_
  refine tS ?_
  obtain ⟨h1,H⟩ | ⟨h1,H⟩ := bC H
  ·refine nA h1 ?_
   refine Tr.exit ?_
   refine aJ ?_
   obtain rfl := si H
   have H := Ho3
   dsimp only at H
   exact jA () H [1] [1]
  refine tA h1 ?_
  refine tK ?_
  refine tS ?_
  refine tB ?_
  refine rA 1 ?_
  obtain ⟨v4,ev4,H⟩ := bs H
  refine iA zC.row ev4 ?_
  refine uA 4 60129542170 18 ?_
  refine rA 3 ?_
  refine sL 4458176053266 18 ⟨58,0,[sB 42 (decide (y1 ≥ 10)),sA 4 4 5 0,sI 35 y1,sI 34 (x0.Binds.length : Int),sC 33 (cF 5 x0.Binds zC.row),sA 1 1 5 0],[(4,(CV.frzRow (zC.row v4))),(1,(CV.frzRow (Pdu.row x0)))]⟩ ?_
  cases h2 : (decide (y1 ≥ 10))
  ·have H := zX h2 H
   refine lA 2 ?_
   obtain ⟨r5,er5,H⟩ := bs H
   refine vA [.rd] (JK n v4.O r5 er5) ?_
   refine lA 3 ?_
   refine sL 281535106252818 18 ⟨58,0,[sB 48 (!r5),sA 4 4 5 0,sI 35 y1,sI 34 (x0.Binds.length : Int),sC 33 (cF 5 x0.Binds zC.row),sA 1 1 5 0],[(4,(CV.frzRow (zC.row v4))),(1,(CV.frzRow (Pdu.row x0)))]⟩ ?_
   cases h3 : (!r5)
   ·have H := zX h3 H
    refine lA 2 ?_
    obtain ⟨r6,er6,H⟩ := bs H
    refine vA [.rd] (zAk n v4.V r6 er6) ?_
    refine uA 2 9007259384283138 2 ?_
    obtain ⟨h4,H⟩ | ⟨h4,H⟩ := bC H
    ·refine nA h4 ?_
     refine tK ?_
     refine eA 2 60129542146 2 ?_
     exact jB mo3 (IntKind.wrap .i64 (y1 + 1)) H [35,34,33,1] [1]
    refine tA h4 ?_
    refine gA 1 4 0 ?_
    refine te ?_
    obtain rfl := si H
    have H := Ho3
    dsimp only at H
    exact fF H
   have H := zY h3 H
   refine uA 5 9007259384283138 2 ?_
   refine tB_ ?_
   refine gA 1 4 0 ?_
   refine te ?_
   obtain rfl := si H
   have H := Ho3
   dsimp only at H
   exact fF H
  have H := zY h2 H
  refine uA 11 9007259384283138 2 ?_
  refine tB_ ?_
  refine gA 1 4 0 ?_
  refine te ?_
  obtain rfl := si H
  have H := Ho3
  dsimp only at H
  exact fF H
 rintro _ H
 have H : (Zl n x0) = some r := H
 unfold Zl at H
 refine rA 2 ?_
 obtain ⟨r2,er2,H⟩ := bs H
 refine vA [.rd] (zAl n x0.Id r2 er2) ?_
 refine uA 1 4 0 ?_
 exact te (fJ [(false,[cB r2])] H)
def QO (n : Nat) (y4 : (List Int)) : Option ((List Int)) :=
  (some y4)
def ZM (n : Nat) (k : (Int × (List Int) → Option (((List Int)) ⊕ ((List Int))))) (v6 : Int) (y2 : Int) (y11 : (List Int)) : Option (((List Int)) ⊕ ((List Int))) :=
  (bif (decide (y11.length + [(IntKind.wrap .u8 (IntKind.wrap .i64 (BitVec.ofInt (IntKind.bits .i64) v6 &&& BitVec.ofInt (IntKind.bits .i64) 127).toNat))].length ≤ 268435456)) then (k ((IntKind.wrap .i64 (y2 + 1)),(y11 ++ [(IntKind.wrap .u8 (IntKind.wrap .i64 (BitVec.ofInt (IntKind.bits .i64) v6 &&& BitVec.ofInt (IntKind.bits .i64) 127).toNat))]))) else none)
def z8 (n : Nat) : Nat → Int → Int → (List Int) → Option (((List Int)) ⊕ ((List Int)))
  | 0,_,_,_ => none
  | mo13 + 1,v6,y9,y10 => (bif (decide (y9 > 0)) then (bif (decide ((0 : Int) ≤ (IntKind.wrap .i64 (7 * y9)))) then (bif (decide (y10.length + [(IntKind.wrap .u8 (IntKind.wrap .i64 ((IntKind.wrap .i64 (BitVec.ofInt (IntKind.bits .i64) (Int.fdiv v6 (2 ^ min (((IntKind.wrap .i64 (7 * y9)) : Int)).toNat (IntKind.bits .i64))) &&& BitVec.ofInt (IntKind.bits .i64) 127).toNat) + 128)))].length ≤ 268435456)) then (z8 n mo13 v6 (IntKind.wrap .i64 (y9 - 1)) (y10 ++ [(IntKind.wrap .u8 (IntKind.wrap .i64 ((IntKind.wrap .i64 (BitVec.ofInt (IntKind.bits .i64) (Int.fdiv v6 (2 ^ min (((IntKind.wrap .i64 (7 * y9)) : Int)).toNat (IntKind.bits .i64))) &&& BitVec.ofInt (IntKind.bits .i64) 127).toNat) + 128)))])) else none) else none) else (some (Sum.inl y10)))
def ZL (n : Nat) (k : (Int × (List Int) → Option (((List Int)) ⊕ ((List Int))))) (v6 : Int) (y2 : Int) (y3 : (List Int)) (y8 : Int) : Option (((List Int)) ⊕ ((List Int))) :=
  ((z8 n n v6 y8 y3).bind fun o => match o with | .inl y11 => (ZM n k v6 y2 y11) | .inr r => some (Sum.inr r))
def zl (n : Nat) : Nat → Int → Int → Option ((Int) ⊕ ((List Int)))
  | 0,_,_ => none
  | mo16 + 1,v6,y7 => (bif (decide ((0 : Int) ≤ (IntKind.wrap .i64 (7 * y7)))) then (bif (decide ((Int.fdiv v6 (2 ^ min (((IntKind.wrap .i64 (7 * y7)) : Int)).toNat (IntKind.bits .i64))) > 127)) then (zl n mo16 v6 (IntKind.wrap .i64 (y7 + 1))) else (some (Sum.inl y7))) else none)
def zZ (n : Nat) : Nat → (List Int) → Int → (List Int) → Option (((List Int)) ⊕ ((List Int)))
  | 0,_,_,_ => none
  | mo5 + 1,x0,y2,y3 => (bif (decide (y2 < (x0.length : Int))) then ((idx x0 y2).bind fun v6 => ((zl n n v6 0).bind fun o => match o with | .inl y8 => (ZL n (fun v => zZ n mo5 x0 v.1 v.2) v6 y2 y3 y8) | .inr r => some (Sum.inr r))) else (some (Sum.inl y3)))
def ZK (n : Nat) (x0 : (List Int)) : Option ((List Int)) :=
  ((ZE n x0).bind fun r1 => (bif (!r1) then (some ([] : List Int)) else ((zZ n n x0 0 ([] : List Int)).bind fun o => match o with | .inl y4 => (QO n y4) | .inr r => some r)))
theorem J8 (n : Nat) (x0 : (List Int)) (r : (List Int)) (H : ZK n x0 = some r) : zJ Try.prog 91 [.val false [.sl false 1 (CV.frzEs (x0.map intRow))]] [.val false [.sl true 1 (r.map zA)]] [] := by
 refine cW Try.func91 (fun g d => sl [g 0,sl [g 1] (cn 9 (sl [g 2] .ret) .skip),g 3,sl [g 4] (.block 0 (.loop (sl [g 5,cn 13 .skip (.exit 0),.block 1 (sl [g 6,g 7,.block 2 (.loop (sl [sl [g 8] (cn 20 .skip (.exit 2))] (.block 3 (g 9)))),.block 4 (.loop (sl [sl [g 10] (cn 24 .skip (.exit 4)),.block 5 (g 12)] (g 11)))] (g 13))] (g 14)))),g 15] .ret) [.tmp 2] fun cx => ?_
 unfold ZK at H
 refine gA 1 1 0 ?_
 refine tS ?_
 refine rA 1 ?_
 obtain ⟨r1,er1,H⟩ := bs H
 refine vA [.rd] (JK n x0 r1 er1) ?_
 refine uA 1 513 0 ?_
 obtain ⟨h1,H⟩ | ⟨h1,H⟩ := bC H
 ·refine nA h1 ?_
  refine tK ?_
  refine gA 1 9 0 ?_
  refine tS ?_
  refine rA 1 ?_
  refine kF x0 intRow ?_
  refine uA 1 7176 0 ?_
  obtain ⟨o5,eo5,Ho5⟩ := bs H
  clear H
  refine Tr.mid (ι := (List Int)) (fun v => ⟨45,0,[sC 3 (cL 1 v zA)],[]⟩) (fun v => QO n v = some r) ?_ ?_
  ·refine tB ?_
   refine Tr.loop (ι := Nat × (Int × (List Int))) (fun v => ⟨45,0,[sI 12 v.2.1,sI 11 (x0.length : Int),sC 10 (cF 1 x0 intRow),sC 3 (cL 1 v.2.2 zA)],[]⟩) (fun v => zZ n v.1 x0 v.2.1 v.2.2 = some o5) (fun v => v.1) (n,(0,([] : List Int))) eo5 (St.sub_of [12,11,10,3] [] kr) ?_
   rintro ⟨mo5,y2,y3⟩ H
   have H : zZ n mo5 x0 y2 y3 = some o5 := H
   obtain _ | mo5 := mo5
   ·exact nN H
   rw [zZ] at H
   refine gA 1 15368 0 ?_
   refine tS ?_
   obtain ⟨h2,H⟩ | ⟨h2,H⟩ := bC H
   ·refine nA h2 ?_
    refine Tr.exit ?_
    refine aJ ?_
    obtain rfl := si H
    have H := Ho5
    dsimp only at H
    exact jA y3 H [3] []
   refine tA h2 ?_
   refine tK ?_
   refine tS ?_
   refine tB ?_
   refine tR ?_
   obtain ⟨v6,ev6,H⟩ := bs H
   refine iA intRow ev6 ?_
   refine uA 2 7208 0 ?_
   refine gA 1 7272 0 ?_
   refine tS ?_
   obtain ⟨o16,eo16,Ho16⟩ := bs H
   clear H
   refine Tr.mid (ι := Int) (fun v => ⟨45,0,[sI 6 v,sI 5 v6,sI 12 y2,sI 11 (x0.length : Int),sC 10 (cF 1 x0 intRow),sC 3 (cL 1 y3 zA)],[]⟩) (fun v => ZL n (fun v => zZ n mo5 x0 v.1 v.2) v6 y2 y3 v = some o5) ?_ ?_
   ·refine tB ?_
    refine Tr.loop (ι := Nat × (Int)) (fun v => ⟨45,0,[sI 6 v.2,sI 5 v6,sI 12 y2,sI 11 (x0.length : Int),sC 10 (cF 1 x0 intRow),sC 3 (cL 1 y3 zA)],[]⟩) (fun v => zl n v.1 v6 v.2 = some o16) (fun v => v.1) (n,0) eo16 (St.sub_of [6,5,12,11,10,3] [] kr) ?_
    rintro ⟨mo16,y7⟩ H
    have H : zl n mo16 v6 y7 = some o16 := H
    obtain _ | mo16 := mo16
    ·exact nN H
    rw [zl] at H
    refine tS ?_
    refine rA 3 ?_
    obtain ⟨hg17,H⟩ := gs H
    refine LAt.binC tOk (op := .shr) (t := 3) (ty := 3) (ty' := 3) (x := (.tmp 16)) (y := (.tmp 18)) (d := 19) (g := none) (.int .i64 v6) (.int .i64 (IntKind.wrap .i64 (7 * y7))) (.int .i64 (Int.fdiv v6 (2 ^ min (((IntKind.wrap .i64 (7 * y7)) : Int)).toNat (IntKind.bits .i64)))) _ kr kr kr kr kr (φ := (0 : Int) ≤ (IntKind.wrap .i64 (7 * y7))) kr (of_decide_eq_true hg17) rfl ?_
    refine uA 1 1055848 0 ?_
    obtain ⟨h4,H⟩ | ⟨h4,H⟩ := bC H
    ·refine nA h4 ?_
     refine Tr.exit ?_
     refine aJ ?_
     obtain rfl := si H
     have H := Ho16
     dsimp only at H
     exact jA y7 H [6,5,12,11,10,3] []
    refine tA h4 ?_
    refine tK ?_
    refine tB ?_
    refine eA 3 7272 0 ?_
    exact jB mo16 (IntKind.wrap .i64 (y7 + 1)) H [6,5,12,11,10,3] []
   rintro y8 H
   have H : (ZL n (fun v => zZ n mo5 x0 v.1 v.2) v6 y2 y3 y8) = some o5 := H
   unfold ZL at H
   refine tS ?_
   obtain ⟨o13,eo13,Ho13⟩ := bs H
   clear H
   refine Tr.mid (ι := (List Int)) (fun v => ⟨45,0,[sI 5 v6,sI 12 y2,sI 11 (x0.length : Int),sC 10 (cF 1 x0 intRow),sC 3 (cL 1 v zA)],[]⟩) (fun v => ZM n (fun v => zZ n mo5 x0 v.1 v.2) v6 y2 v = some o5) ?_ ?_
   ·refine tB ?_
    refine Tr.loop (ι := Nat × (Int × (List Int))) (fun v => ⟨45,0,[sI 6 v.2.1,sI 5 v6,sI 12 y2,sI 11 (x0.length : Int),sC 10 (cF 1 x0 intRow),sC 3 (cL 1 v.2.2 zA)],[]⟩) (fun v => z8 n v.1 v6 v.2.1 v.2.2 = some o13) (fun v => v.1) (n,(y8,y3)) eo13 (St.sub_of [6,5,12,11,10,3] [] kr) ?_
    rintro ⟨mo13,y9,y10⟩ H
    have H : z8 n mo13 v6 y9 y10 = some o13 := H
    obtain _ | mo13 := mo13
    ·exact nN H
    rw [z8] at H
    refine tS ?_
    refine gA 2 16784488 0 ?_
    obtain ⟨h3,H⟩ | ⟨h3,H⟩ := bC H
    ·refine nA h3 ?_
     refine Tr.exit ?_
     refine aJ ?_
     obtain rfl := si H
     have H := Ho13
     dsimp only at H
     exact jA y10 H [5,12,11,10,3] []
    refine tA h3 ?_
    refine tK ?_
    refine tS ?_
    refine tB ?_
    refine Tr.at ?_
    refine lA 4 ?_
    obtain ⟨hg14,H⟩ := gs H
    refine LAt.binC tOk (op := .shr) (t := 3) (ty := 3) (ty' := 3) (x := (.tmp 28)) (y := (.tmp 30)) (d := 31) (g := none) (.int .i64 v6) (.int .i64 (IntKind.wrap .i64 (7 * y9))) (.int .i64 (Int.fdiv v6 (2 ^ min (((IntKind.wrap .i64 (7 * y9)) : Int)).toNat (IntKind.bits .i64)))) _ kr kr kr kr kr (φ := (0 : Int) ≤ (IntKind.wrap .i64 (7 * y9))) kr (of_decide_eq_true hg14) rfl ?_
    refine lA 4 ?_
    obtain ⟨hg15,H⟩ := gs H
    refine LAt.appMU tOk (t := 33) (ty := 33) (e := 5) (x := (.tmp 27)) (y := (.tmp 35)) (d := 36) (g := none) (tI 5) zA y10 [(IntKind.wrap .u8 (IntKind.wrap .i64 ((IntKind.wrap .i64 (BitVec.ofInt (IntKind.bits .i64) (Int.fdiv v6 (2 ^ min (((IntKind.wrap .i64 (7 * y9)) : Int)).toNat (IntKind.bits .i64))) &&& BitVec.ofInt (IntKind.bits .i64) 127).toNat) + 128)))] kr kr kr kr kr kr kr kr kr kr hg15 ?_
    refine LAt.moveU (T := lk tab) (ty := 33) (x := (.tmp 36)) (d := 3) (g := none) false [cL 1 (y10 ++ [(IntKind.wrap .u8 (IntKind.wrap .i64 ((IntKind.wrap .i64 (BitVec.ofInt (IntKind.bits .i64) (Int.fdiv v6 (2 ^ min (((IntKind.wrap .i64 (7 * y9)) : Int)).toNat (IntKind.bits .i64))) &&& BitVec.ofInt (IntKind.bits .i64) 127).toNat) + 128)))]) zA] kr kr kr kr kr ?_
    refine dA 7272 0 ?_
    refine eA 3 7272 0 ?_
    exact jB mo13 ((IntKind.wrap .i64 (y9 - 1)),(y10 ++ [(IntKind.wrap .u8 (IntKind.wrap .i64 ((IntKind.wrap .i64 (BitVec.ofInt (IntKind.bits .i64) (Int.fdiv v6 (2 ^ min (((IntKind.wrap .i64 (7 * y9)) : Int)).toNat (IntKind.bits .i64))) &&& BitVec.ofInt (IntKind.bits .i64) 127).toNat) + 128)))])) H [6,5,12,11,10,3] []
   rintro y11 H
   have H : (ZM n (fun v => zZ n mo5 x0 v.1 v.2) v6 y2 y11) = some o5 := H
   unfold ZM at H
   refine Tr.at ?_
   refine lA 5 ?_
   obtain ⟨hg12,H⟩ := gs H
   refine LAt.appMU tOk (t := 33) (ty := 33) (e := 5) (x := (.tmp 37)) (y := (.tmp 41)) (d := 42) (g := none) (tI 5) zA y11 [(IntKind.wrap .u8 (IntKind.wrap .i64 (BitVec.ofInt (IntKind.bits .i64) v6 &&& BitVec.ofInt (IntKind.bits .i64) 127).toNat))] kr kr kr kr kr kr kr kr kr kr hg12 ?_
   refine LAt.moveU (T := lk tab) (ty := 33) (x := (.tmp 42)) (d := 3) (g := none) false [cL 1 (y11 ++ [(IntKind.wrap .u8 (IntKind.wrap .i64 (BitVec.ofInt (IntKind.bits .i64) v6 &&& BitVec.ofInt (IntKind.bits .i64) 127).toNat))]) zA] kr kr kr kr kr ?_
   refine dA 7176 0 ?_
   refine eA 2 7176 0 ?_
   exact jB mo5 ((IntKind.wrap .i64 (y2 + 1)),(y11 ++ [(IntKind.wrap .u8 (IntKind.wrap .i64 (BitVec.ofInt (IntKind.bits .i64) v6 &&& BitVec.ofInt (IntKind.bits .i64) 127).toNat))])) H [12,11,10,3] []
  rintro y4 H
  have H : (QO n y4) = some r := H
  unfold QO at H
  refine gA 2 12 0 ?_
  exact te (fJ [(false,[cL 1 y4 zA])] H)
 refine tA h1 ?_
 refine gA 1 4 0 ?_
 exact te (fJ [(false,[cL 1 ([] : List Int) zA])] H)
def ZF (n : Nat) (x1 : (List Int)) (y2 : (List Int)) : Option ((List Int) × Bool) :=
  (bif (decide (y2.length + [(IntKind.wrap .u8 (x1.length : Int))].length ≤ 268435456)) then (bif (decide ((y2 ++ [(IntKind.wrap .u8 (x1.length : Int))]).length + x1.length ≤ 268435456)) then (some (((y2 ++ [(IntKind.wrap .u8 (x1.length : Int))]) ++ x1),true)) else none) else none)
def ZB (n : Nat) (x0 : Int) (x1 : (List Int)) : Option ((List Int) × Bool) :=
  ((qp n x0 0 255).bind fun r1 => (bif (!r1) then (some (([] : List Int),false)) else (bif (decide ((x1.length : Int) > 250)) then (some (([] : List Int),false)) else (bif (decide ((x1.length : Int) ≥ 128)) then (bif (decide ([(IntKind.wrap .u8 x0)].length + [129].length ≤ 268435456)) then (ZF n x1 ([(IntKind.wrap .u8 x0)] ++ [129])) else none) else (ZF n x1 [(IntKind.wrap .u8 x0)])))))
theorem JL (n : Nat) (x0 : Int) (x1 : (List Int)) (r : (List Int) × Bool) (H : ZB n x0 x1 = some r) : zJ Try.prog 88 [.val false [.lit (.int .i64 x0)],.val false [.sl false 1 (CV.frzEs (x1.map zA))]] [.val false [.sl true 1 (r.1.map zA)],.val false [.lit (.bool r.2)]] [] := by
 refine cW Try.func88 (fun g d => sl [g 0,sl [g 1] (cn 14 (sl [g 2] .ret) .skip),g 3,sl [g 4] (cn 20 (g 5) .skip),g 6] .ret) [.tmp 4,.tmp 5] fun cx => ?_
 unfold ZB at H
 refine gA 2 3 0 ?_
 refine tS ?_
 refine rA 1 ?_
 obtain ⟨r1,er1,H⟩ := bs H
 refine vA [.rd,.rd,.rd] (QP n x0 0 255 r1 er1) ?_
 refine lA 2 ?_
 refine sL 1027 0 ⟨32,0,[sB 10 (!r1),sI 0 x0,sC 1 (cF 1 x1 zA)],[]⟩ ?_
 cases h1 : (!r1)
 ·have H := zX h1 H
  refine lA 1 ?_
  refine kF x1 zA ?_
  refine uA 2 16387 0 ?_
  obtain ⟨h2,H⟩ | ⟨h2,H⟩ := bC H
  ·refine nA h2 ?_
   refine tK ?_
   refine rA 3 ?_
   refine LAt.moveU (T := lk tab) (ty := 33) (x := (.tmp 17)) (d := 6) (g := none) false [cL 1 [(IntKind.wrap .u8 x0)] zA] kr kr kr kr kr ?_
   refine dA 66 0 ?_
   refine tS ?_
   refine Tr.mid (ι := (List Int)) (fun v => ⟨32,0,[sC 6 (cL 1 v zA),sC 1 (cF 1 x1 zA)],[]⟩) (fun v => ZF n x1 v = some r) ?_ ?_
   ·refine rA 1 ?_
    refine kF x1 zA ?_
    refine uA 1 1048642 0 ?_
    obtain ⟨h3,H⟩ | ⟨h3,H⟩ := bC H
    ·refine nA h3 ?_
     refine tK ?_
     exact jA [(IntKind.wrap .u8 x0)] H [6,1] []
    refine tA h3 ?_
    refine Tr.at ?_
    refine lA 2 ?_
    obtain ⟨hg5,H⟩ := gs H
    refine LAt.appMU tOk (t := 33) (ty := 33) (e := 5) (x := (.tmp 21)) (y := (.tmp 22)) (d := 23) (g := none) (tI 5) zA [(IntKind.wrap .u8 x0)] [129] kr kr kr kr kr kr kr kr kr kr hg5 ?_
    refine LAt.moveU (T := lk tab) (ty := 33) (x := (.tmp 23)) (d := 6) (g := none) false [cL 1 ([(IntKind.wrap .u8 x0)] ++ [129]) zA] kr kr kr kr kr ?_
    refine dA 66 0 ?_
    exact jA ([(IntKind.wrap .u8 x0)] ++ [129]) H [6,1] []
   rintro y2 H
   have H : (ZF n x1 y2) = some r := H
   unfold ZF at H
   refine rA 2 ?_
   refine kF x1 zA ?_
   refine lA 2 ?_
   obtain ⟨hg3,H⟩ := gs H
   refine LAt.appMU tOk (t := 33) (ty := 33) (e := 5) (x := (.tmp 24)) (y := (.tmp 28)) (d := 29) (g := none) (tI 5) zA y2 [(IntKind.wrap .u8 (x1.length : Int))] kr kr kr kr kr kr kr kr kr kr hg3 ?_
   refine lA 1 ?_
   obtain ⟨hg4,H⟩ := gs H
   refine pD zA hg4 ?_
   refine LAt.moveU (T := lk tab) (ty := 33) (x := (.tmp 31)) (d := 4) (g := none) false [cL 1 ((y2 ++ [(IntKind.wrap .u8 (x1.length : Int))]) ++ x1) zA] kr kr kr kr kr ?_
   refine uA 1 48 0 ?_
   exact te (fJ [(false,[cL 1 ((y2 ++ [(IntKind.wrap .u8 (x1.length : Int))]) ++ x1) zA]),(false,[cB true])] H)
  refine tA h2 ?_
  refine gA 2 48 0 ?_
  exact te (fJ [(false,[cL 1 ([] : List Int) zA]),(false,[cB false])] H)
 have H := zY h1 H
 refine uA 4 16387 0 ?_
 refine tB_ ?_
 refine gA 2 48 0 ?_
 exact te (fJ [(false,[cL 1 ([] : List Int) zA]),(false,[cB false])] H)
def ZA (n : Nat) (x0 : (List Int)) : Option ((List Int)) :=
  (bif (decide (([] : List Int).length + x0.length ≤ 268435456)) then (some (([] : List Int) ++ x0)) else none)
theorem Y5 (n : Nat) (x0 : (List Int)) (r : (List Int)) (H : ZA n x0 = some r) : zJ Try.prog 144 [.val false [.sl false 1 (CV.frzEs (x0.map zA))]] [.val false [.sl true 1 (r.map zA)]] [] := by
 refine cW Try.func144 (fun g d => sl [g 0,g 1] .ret) [.tmp 2] fun cx => ?_
 unfold ZA at H
 refine gA 1 1 0 ?_
 refine rA 1 ?_
 obtain ⟨hg1,H⟩ := gs H
 refine LAt.appCU tOk (t := 33) (ty := 33) (e := 5) (x := (.const (.slice none 0 0))) (y := (.tmp 3)) (d := 4) (g := none) (tI 5) zA ([] : List Int) x0 ⟨(.slot 3),[],0,false,1,(CV.frzEs (x0.map zA))⟩ kr kr kr kr kr kr kr kr kr kr kr (.inr rfl) (fun _ => rfl) (fun _ => rfl) hg1 ?_
 refine LAt.moveU (T := lk tab) (ty := 33) (x := (.tmp 4)) (d := 2) (g := none) false [cL 1 (([] : List Int) ++ x0) zA] kr kr kr kr kr ?_
 refine dA 4 0 ?_
 exact te (fJ [(false,[cL 1 (([] : List Int) ++ x0) zA])] H)
def qI (n : Nat) (x0 : (List Int)) (x1 : Int) (x2 : (List Int)) : Option ((List Int)) :=
  ((ZB n x1 x2).bind fun r1 => ((ZA n x0).bind fun r2 => (bif (decide (r2.length + r1.1.length ≤ 268435456)) then (some (r2 ++ r1.1)) else none)))
theorem Zt (n : Nat) (x0 : (List Int)) (x1 : Int) (x2 : (List Int)) (r : (List Int)) (H : qI n x0 x1 x2 = some r) : zJ Try.prog 90 [.val false [.sl false 1 (CV.frzEs (x0.map zA))],.val false [.lit (.int .i64 x1)],.val false [.sl false 1 (CV.frzEs (x2.map zA))]] [.val false [.sl true 1 (r.map zA)]] [] := by
 refine cW Try.func90 (fun g d => sl [g 0,g 1,g 2] .ret) [.tmp 6] fun cx => ?_
 unfold qI at H
 refine gA 1 7 0 ?_
 refine rA 2 ?_
 obtain ⟨r1,er1,H⟩ := bs H
 refine vA [.rd,.rd] (JL n x1 x2 r1 er1) ?_
 refine LAt.movT tOk (ty := 129) (t := 12) (d := 9) (g := none) [(false,[cL 1 r1.1 zA]),(false,[cB r1.2])] _ kr (.inl rfl) kr kr kr kr rfl ?_
 refine lA 2 ?_
 refine LAt.moveU (T := lk tab) (ty := 33) (x := (.tmp 13)) (d := 7) (g := none) false [cL 1 r1.1 zA] kr kr kr kr kr ?_
 refine uA 1 129 0 ?_
 refine rA 1 ?_
 obtain ⟨r2,er2,H⟩ := bs H
 refine vA [.rd] (Y5 n x0 r2 er2) ?_
 refine lA 1 ?_
 obtain ⟨hg3,H⟩ := gs H
 refine pC zA hg3 ?_
 refine LAt.moveU (T := lk tab) (ty := 33) (x := (.tmp 18)) (d := 6) (g := none) false [cL 1 (r2 ++ r1.1) zA] kr kr kr kr kr ?_
 refine dA 64 0 ?_
 exact te (fJ [(false,[cL 1 (r2 ++ r1.1) zA])] H)
def QN (n : Nat) (y5 : (List Int)) : Option ((List Int)) :=
  (some y5)
def qN (n : Nat) : Nat → Int → Int → (List Int) → Option (((List Int)) ⊕ ((List Int)))
  | 0,_,_,_ => none
  | mo6 + 1,x0,y3,y4 => (bif (decide (y3 ≥ 0)) then (bif (decide ((0 : Int) ≤ (IntKind.wrap .i64 (8 * y3)))) then (bif (decide (y4.length + [(IntKind.wrap .u8 (Int.fdiv (if (if 2147483647 < x0 then 2147483647 else x0) > (-2147483648) then (if 2147483647 < x0 then 2147483647 else x0) else (-2147483648)) (2 ^ min (((IntKind.wrap .i64 (8 * y3)) : Int)).toNat (IntKind.bits .i64))))].length ≤ 268435456)) then (qN n mo6 x0 (IntKind.wrap .i64 (y3 - 1)) (y4 ++ [(IntKind.wrap .u8 (Int.fdiv (if (if 2147483647 < x0 then 2147483647 else x0) > (-2147483648) then (if 2147483647 < x0 then 2147483647 else x0) else (-2147483648)) (2 ^ min (((IntKind.wrap .i64 (8 * y3)) : Int)).toNat (IntKind.bits .i64))))])) else none) else none) else (some (Sum.inl y4)))
def qx (n : Nat) (x0 : Int) (y2 : Int) : Option ((List Int)) :=
  ((qN n n x0 (IntKind.wrap .i64 (y2 - 1)) ([] : List Int)).bind fun o => match o with | .inl y5 => (QN n y5) | .inr r => some r)
def zf (n : Nat) : Nat → Int → Int → Option ((Int) ⊕ ((List Int)))
  | 0,_,_ => none
  | mo9 + 1,x0,y1 => (bif (decide (y1 < 4)) then (bif (decide ((0 : Int) ≤ (IntKind.wrap .i64 ((IntKind.wrap .i64 (8 * y1)) - 1)))) then (bif (decide ((0 : Int) ≤ (IntKind.wrap .i64 ((IntKind.wrap .i64 (8 * y1)) - 1)))) then ((qp n (if (if 2147483647 < x0 then 2147483647 else x0) > (-2147483648) then (if 2147483647 < x0 then 2147483647 else x0) else (-2147483648)) (IntKind.wrap .i64 ((-1) * 2 ^ min (((IntKind.wrap .i64 ((IntKind.wrap .i64 (8 * y1)) - 1)) : Int)).toNat (IntKind.bits .i64))) (IntKind.wrap .i64 ((IntKind.wrap .i64 (1 * 2 ^ min (((IntKind.wrap .i64 ((IntKind.wrap .i64 (8 * y1)) - 1)) : Int)).toNat (IntKind.bits .i64))) - 1))).bind fun r12 => (bif (!r12) then (zf n mo9 x0 (IntKind.wrap .i64 (y1 + 1))) else (some (Sum.inl y1)))) else none) else none) else (some (Sum.inl y1)))
def ZJ (n : Nat) (x0 : Int) : Option ((List Int)) :=
  ((zf n n x0 1).bind fun o => match o with | .inl y2 => (qx n x0 y2) | .inr r => some r)
def zD7 : Tab := ⟨16,[0,1,2,4,4,20,36,68,4,260,516,1028,2052,4236,8196,16388],[0,1,2,4,4,20,36,68,4,260,516,1028,2052,4236,8196,16388],[0,1,3,7,7,23,55,119,7,263,775,1799,3847,8191,16383,32767]⟩
theorem qs : zp (rg Try.f145 3) zD7 = true := kr
theorem J7 (n : Nat) (x0 : Int) (r : (List Int)) (H : ZJ n x0 = some r) : zJ Try.prog 145 [.val false [.lit (.int .i64 x0)]] [.val false [.sl true 1 (r.map zA)]] [] := by
 refine cW Try.func145 (fun g d => sl [g 0,g 1,g 2,.block 0 (.loop (sl [sl [d 3] (cn 24 .skip (.exit 0))] (.block 1 (g 4)))),g 5,sl [g 6] (.block 2 (.loop (sl [sl [g 7] (cn 30 .skip (.exit 2)),.block 3 (g 9)] (g 8)))),g 10] .ret) [.tmp 2] fun cx => ?_
 unfold ZJ at H
 refine gA 1 1 0 ?_
 refine gA 4 1 0 ?_
 refine gA 1 9 0 ?_
 refine tS ?_
 obtain ⟨o9,eo9,Ho9⟩ := bs H
 clear H
 refine Tr.mid (ι := Int) (fun v => ⟨42,0,[sI 3 v,sI 0 (if (if 2147483647 < x0 then 2147483647 else x0) > (-2147483648) then (if 2147483647 < x0 then 2147483647 else x0) else (-2147483648))],[]⟩) (fun v => qx n x0 v = some r) ?_ ?_
 ·refine tB ?_
  refine Tr.loop (ι := Nat × (Int)) (fun v => ⟨42,0,[sI 3 v.2,sI 0 (if (if 2147483647 < x0 then 2147483647 else x0) > (-2147483648) then (if 2147483647 < x0 then 2147483647 else x0) else (-2147483648))],[]⟩) (fun v => zf n v.1 x0 v.2 = some o9) (fun v => v.1) (n,1) eo9 (St.sub_of [3,0] [] kr) ?_
  rintro ⟨mo9,y1⟩ H
  have H : zf n mo9 x0 y1 = some o9 := H
  obtain _ | mo9 := mo9
  ·exact nN H
  rw [zf] at H
  refine tS ?_
  refine sT ⟨42,0,[sI 3 y1,sI 0 (if (if 2147483647 < x0 then 2147483647 else x0) > (-2147483648) then (if 2147483647 < x0 then 2147483647 else x0) else (-2147483648))],[]⟩ ?_
  cases h2 : (decide (y1 < 4))
  ·have H := zX h2 H
   refine Tr.draws mixed 16 kr ⟨42,0,[sB 24 false,sI 3 y1,sI 0 (if (if 2147483647 < x0 then 2147483647 else x0) > (-2147483648) then (if 2147483647 < x0 then 2147483647 else x0) else (-2147483648))],[]⟩ (fun cx => ?_) ?_
   ·refine mA qs [(0,[]),(1,[]),(2,[])] 13 [] fun cx => ?_
    refine sA_ 2057 0 ⟨42,0,[sB 11 (decide (y1 < 4)),sI 3 y1,sI 0 (if (if 2147483647 < x0 then 2147483647 else x0) > (-2147483648) then (if 2147483647 < x0 then 2147483647 else x0) else (-2147483648))],[]⟩ ?_
    rw [h2]
    refine mA qs [(3,[]),(4,[]),(5,[]),(6,[]),(7,[]),(8,[]),(9,[]),(10,[]),(11,[]),(12,[]),(13,[]),(14,[]),(15,[])] 0 [] fun cx => ?_
    exact mE qs [24,3,0] []
   refine nB_ ?_
   refine Tr.exit ?_
   refine aJ ?_
   obtain rfl := si H
   have H := Ho9
   dsimp only at H
   exact jA y1 H [3,0] []
  have H := zY h2 H
  obtain ⟨hg10,H⟩ := gs H
  obtain ⟨hg11,H⟩ := gs H
  obtain ⟨r12,er12,H⟩ := bs H
  refine Tr.draws mixed 16 kr ⟨42,0,[sB 24 (!r12),sI 3 y1,sI 0 (if (if 2147483647 < x0 then 2147483647 else x0) > (-2147483648) then (if 2147483647 < x0 then 2147483647 else x0) else (-2147483648))],[]⟩ (fun cx => ?_) ?_
  ·refine mA qs [(0,[]),(1,[]),(2,[])] 13 [] fun cx => ?_
   refine sA_ 2057 0 ⟨42,0,[sB 11 (decide (y1 < 4)),sI 3 y1,sI 0 (if (if 2147483647 < x0 then 2147483647 else x0) > (-2147483648) then (if 2147483647 < x0 then 2147483647 else x0) else (-2147483648))],[]⟩ ?_
   rw [h2]
   refine mA qs [(3,[]),(4,[]),(5,[]),(6,[]),(8,[]),(9,[]),(10,[])] 6 [] fun cx => ?_
   refine mB2 tOk qs 7 11 kr (And.intro kr ?_) (And.intro kr ?_)
   ·refine LAt.binC tOk (op := .shl) (t := 3) (ty := 3) (ty' := 3) (x := (.const (.int .i64 (-1)))) (y := (.tmp 15)) (d := 16) (g := (some (2,true))) (.int .i64 (-1)) (.int .i64 (IntKind.wrap .i64 ((IntKind.wrap .i64 (8 * y1)) - 1))) (.int .i64 (IntKind.wrap .i64 ((-1) * 2 ^ min (((IntKind.wrap .i64 ((IntKind.wrap .i64 (8 * y1)) - 1)) : Int)).toNat (IntKind.bits .i64)))) _ kr kr kr kr kr (φ := (0 : Int) ≤ (IntKind.wrap .i64 ((IntKind.wrap .i64 (8 * y1)) - 1))) kr (of_decide_eq_true hg10) rfl ?_
    refine fA ?_
    refine mC qs 11 ?_
    refine LAt.binC tOk (op := .shl) (t := 3) (ty := 3) (ty' := 3) (x := (.const (.int .i64 1))) (y := (.tmp 19)) (d := 20) (g := (some (2,true))) (.int .i64 1) (.int .i64 (IntKind.wrap .i64 ((IntKind.wrap .i64 (8 * y1)) - 1))) (.int .i64 (IntKind.wrap .i64 (1 * 2 ^ min (((IntKind.wrap .i64 ((IntKind.wrap .i64 (8 * y1)) - 1)) : Int)).toNat (IntKind.bits .i64)))) _ kr kr kr kr kr (φ := (0 : Int) ≤ (IntKind.wrap .i64 ((IntKind.wrap .i64 (8 * y1)) - 1))) kr (of_decide_eq_true hg11) rfl ?_
    refine fA ?_
    refine mA qs [(12,[])] 3 [] fun cx => ?_
    refine mC qs 13 ?_
    refine vA [.rd,.rd,.rd] (QP n (if (if 2147483647 < x0 then 2147483647 else x0) > (-2147483648) then (if 2147483647 < x0 then 2147483647 else x0) else (-2147483648)) (IntKind.wrap .i64 ((-1) * 2 ^ min (((IntKind.wrap .i64 ((IntKind.wrap .i64 (8 * y1)) - 1)) : Int)).toNat (IntKind.bits .i64))) (IntKind.wrap .i64 ((IntKind.wrap .i64 (1 * 2 ^ min (((IntKind.wrap .i64 ((IntKind.wrap .i64 (8 * y1)) - 1)) : Int)).toNat (IntKind.bits .i64))) - 1)) r12 er12) ?_
    refine fA ?_
    refine mA qs [(14,[]),(15,[])] 0 [] fun cx => ?_
    exact mE qs [24,3,0] []
   ·refine LAt.binC tOk (op := .shl) (t := 3) (ty := 3) (ty' := 3) (x := (.const (.int .i64 1))) (y := (.tmp 19)) (d := 20) (g := (some (2,true))) (.int .i64 1) (.int .i64 (IntKind.wrap .i64 ((IntKind.wrap .i64 (8 * y1)) - 1))) (.int .i64 (IntKind.wrap .i64 (1 * 2 ^ min (((IntKind.wrap .i64 ((IntKind.wrap .i64 (8 * y1)) - 1)) : Int)).toNat (IntKind.bits .i64)))) _ kr kr kr kr kr (φ := (0 : Int) ≤ (IntKind.wrap .i64 ((IntKind.wrap .i64 (8 * y1)) - 1))) kr (of_decide_eq_true hg11) rfl ?_
    refine fA ?_
    refine mA qs [(12,[])] 4 [] fun cx => ?_
    refine mC qs 7 ?_
    refine LAt.binC tOk (op := .shl) (t := 3) (ty := 3) (ty' := 3) (x := (.const (.int .i64 (-1)))) (y := (.tmp 15)) (d := 16) (g := (some (2,true))) (.int .i64 (-1)) (.int .i64 (IntKind.wrap .i64 ((IntKind.wrap .i64 (8 * y1)) - 1))) (.int .i64 (IntKind.wrap .i64 ((-1) * 2 ^ min (((IntKind.wrap .i64 ((IntKind.wrap .i64 (8 * y1)) - 1)) : Int)).toNat (IntKind.bits .i64)))) _ kr kr kr kr kr (φ := (0 : Int) ≤ (IntKind.wrap .i64 ((IntKind.wrap .i64 (8 * y1)) - 1))) kr (of_decide_eq_true hg10) rfl ?_
    refine fA ?_
    refine mC qs 13 ?_
    refine vA [.rd,.rd,.rd] (QP n (if (if 2147483647 < x0 then 2147483647 else x0) > (-2147483648) then (if 2147483647 < x0 then 2147483647 else x0) else (-2147483648)) (IntKind.wrap .i64 ((-1) * 2 ^ min (((IntKind.wrap .i64 ((IntKind.wrap .i64 (8 * y1)) - 1)) : Int)).toNat (IntKind.bits .i64))) (IntKind.wrap .i64 ((IntKind.wrap .i64 (1 * 2 ^ min (((IntKind.wrap .i64 ((IntKind.wrap .i64 (8 * y1)) - 1)) : Int)).toNat (IntKind.bits .i64))) - 1)) r12 er12) ?_
    refine fA ?_
    refine mA qs [(14,[]),(15,[])] 0 [] fun cx => ?_
    exact mE qs [24,3,0] []
  refine sT ⟨42,0,[sB 24 (!r12),sI 3 y1,sI 0 (if (if 2147483647 < x0 then 2147483647 else x0) > (-2147483648) then (if 2147483647 < x0 then 2147483647 else x0) else (-2147483648))],[]⟩ ?_
  cases h3 : (!r12)
  ·have H := zX h3 H
   refine nB_ ?_
   refine Tr.exit ?_
   refine aJ ?_
   obtain rfl := si H
   have H := Ho9
   dsimp only at H
   exact jA y1 H [3,0] []
  have H := zY h3 H
  refine tB_ ?_
  refine tK ?_
  refine tB ?_
  refine eA 3 9 0 ?_
  exact jB mo9 (IntKind.wrap .i64 (y1 + 1)) H [3,0] []
 rintro y2 H
 have H : (qx n x0 y2) = some r := H
 unfold qx at H
 refine gA 1 25 0 ?_
 refine tS ?_
 refine gA 3 49 0 ?_
 obtain ⟨o6,eo6,Ho6⟩ := bs H
 clear H
 refine Tr.mid (ι := (List Int)) (fun v => ⟨42,0,[sC 4 (cL 1 v zA)],[]⟩) (fun v => QN n v = some r) ?_ ?_
 ·refine tB ?_
  refine Tr.loop (ι := Nat × (Int × (List Int))) (fun v => ⟨42,0,[sI 5 v.2.1,sC 4 (cL 1 v.2.2 zA),sI 0 (if (if 2147483647 < x0 then 2147483647 else x0) > (-2147483648) then (if 2147483647 < x0 then 2147483647 else x0) else (-2147483648))],[]⟩) (fun v => qN n v.1 x0 v.2.1 v.2.2 = some o6) (fun v => v.1) (n,((IntKind.wrap .i64 (y2 - 1)),([] : List Int))) eo6 (St.sub_of [5,4,0] [] kr) ?_
  rintro ⟨mo6,y3,y4⟩ H
  have H : qN n mo6 x0 y3 y4 = some o6 := H
  obtain _ | mo6 := mo6
  ·exact nN H
  rw [qN] at H
  refine tS ?_
  refine gA 2 1073741873 0 ?_
  obtain ⟨h1,H⟩ | ⟨h1,H⟩ := bC H
  ·refine nA h1 ?_
   refine Tr.exit ?_
   refine aJ ?_
   obtain rfl := si H
   have H := Ho6
   dsimp only at H
   exact jA y4 H [4] []
  refine tA h1 ?_
  refine tK ?_
  refine tS ?_
  refine tB ?_
  refine Tr.at ?_
  refine lA 4 ?_
  obtain ⟨hg7,H⟩ := gs H
  refine LAt.binC tOk (op := .shr) (t := 3) (ty := 3) (ty' := 3) (x := (.tmp 34)) (y := (.tmp 36)) (d := 37) (g := none) (.int .i64 (if (if 2147483647 < x0 then 2147483647 else x0) > (-2147483648) then (if 2147483647 < x0 then 2147483647 else x0) else (-2147483648))) (.int .i64 (IntKind.wrap .i64 (8 * y3))) (.int .i64 (Int.fdiv (if (if 2147483647 < x0 then 2147483647 else x0) > (-2147483648) then (if 2147483647 < x0 then 2147483647 else x0) else (-2147483648)) (2 ^ min (((IntKind.wrap .i64 (8 * y3)) : Int)).toNat (IntKind.bits .i64)))) _ kr kr kr kr kr (φ := (0 : Int) ≤ (IntKind.wrap .i64 (8 * y3))) kr (of_decide_eq_true hg7) rfl ?_
  refine lA 2 ?_
  obtain ⟨hg8,H⟩ := gs H
  refine LAt.appMU tOk (t := 33) (ty := 33) (e := 5) (x := (.tmp 33)) (y := (.tmp 39)) (d := 40) (g := none) (tI 5) zA y4 [(IntKind.wrap .u8 (Int.fdiv (if (if 2147483647 < x0 then 2147483647 else x0) > (-2147483648) then (if 2147483647 < x0 then 2147483647 else x0) else (-2147483648)) (2 ^ min (((IntKind.wrap .i64 (8 * y3)) : Int)).toNat (IntKind.bits .i64))))] kr kr kr kr kr kr kr kr kr kr hg8 ?_
  refine LAt.moveU (T := lk tab) (ty := 33) (x := (.tmp 40)) (d := 4) (g := none) false [cL 1 (y4 ++ [(IntKind.wrap .u8 (Int.fdiv (if (if 2147483647 < x0 then 2147483647 else x0) > (-2147483648) then (if 2147483647 < x0 then 2147483647 else x0) else (-2147483648)) (2 ^ min (((IntKind.wrap .i64 (8 * y3)) : Int)).toNat (IntKind.bits .i64))))]) zA] kr kr kr kr kr ?_
  refine dA 49 0 ?_
  refine eA 3 49 0 ?_
  exact jB mo6 ((IntKind.wrap .i64 (y3 - 1)),(y4 ++ [(IntKind.wrap .u8 (Int.fdiv (if (if 2147483647 < x0 then 2147483647 else x0) > (-2147483648) then (if 2147483647 < x0 then 2147483647 else x0) else (-2147483648)) (2 ^ min (((IntKind.wrap .i64 (8 * y3)) : Int)).toNat (IntKind.bits .i64))))])) H [5,4,0] []
 rintro y5 H
 have H : (QN n y5) = some r := H
 unfold QN at H
 refine gA 2 20 0 ?_
 exact te (fJ [(false,[cL 1 y5 zA])] H)
def QB (n : Nat) (x0 : (List Int)) (x1 : Val) : Option ((List Int)) :=
  ((qJ n x1).bind fun r1 => (bif (!r1) then ((ZA n x0).bind fun r9 => (some r9)) else (bif (x1.K == 2) then ((ZJ n x1.N).bind fun r7 => ((qI n x0 x1.K r7).bind fun r8 => (some r8))) else (bif (x1.K == 4) then (bif (decide (x1.S.size ≤ 268435456)) then ((qI n x0 x1.K (bytesOf x1.S)).bind fun r6 => (some r6)) else none) else (bif (x1.K == 6) then ((ZK n x1.O).bind fun r3 => ((qI n x0 x1.K r3).bind fun r4 => (some r4))) else ((qI n x0 x1.K ([] : List Int)).bind fun r2 => (some r2)))))))
theorem zB7 (n : Nat) (x0 : (List Int)) (x1 : Val) (r : (List Int)) (H : QB n x0 x1 = some r) : zJ Try.prog 89 [.val false [.sl false 1 (CV.frzEs (x0.map zA))],.val true (CV.frzRow (Val.row x1))] [.val false [.sl true 1 (r.map zA)]] [] := by
 refine cW Try.func89 (fun g d => sl [g 0,sl [g 1] (cn 8 (sl [g 2] .ret) .skip),g 3,sl [g 4] (.block 0 (sl [g 5] (cn 13 (g 6) (sl [g 7] (cn 18 (g 8) (sl [g 9] (cn 23 (g 10) .skip))))))),g 11] .ret) [.tmp 4] fun cx => ?_
 unfold QB at H
 refine gA 2 9 8 ?_
 refine tS ?_
 refine rA 1 ?_
 obtain ⟨r1,er1,H⟩ := bs H
 refine vA [.rd] (zAk n x1 r1 er1) ?_
 refine uA 1 265 8 ?_
 obtain ⟨h1,H⟩ | ⟨h1,H⟩ := bC H
 ·refine nA h1 ?_
  refine tK ?_
  refine gA 1 41 8 ?_
  refine tS ?_
  refine gA 2 4137 8 ?_
  refine tB ?_
  refine gA 2 12329 8 ?_
  obtain ⟨h2,H⟩ | ⟨h2,H⟩ := bC H
  ·refine nA h2 ?_
   refine gA 2 266281 8 ?_
   obtain ⟨h3,H⟩ | ⟨h3,H⟩ := bC H
   ·refine nA h3 ?_
    refine gA 2 8388649 8 ?_
    obtain ⟨h4,H⟩ | ⟨h4,H⟩ := bC H
    ·refine nA h4 ?_
     refine tK ?_
     refine rA 4 ?_
     obtain ⟨r2,er2,H⟩ := bs H
     refine vB [.rd,.rd,.rd] [.slot 5] (Zt n x0 x1.K ([] : List Int) r2 er2) (.inr (zj (zL (ql (qL qH _)) za) z5)) ?_
     refine LAt.moveU (T := lk tab) (ty := 33) (x := (.tmp 32)) (d := 4) (g := none) false [cL 1 r2 zA] kr kr kr kr kr ?_
     refine dA 16 0 ?_
     exact te (fJ [(false,[cL 1 r2 zA])] H)
    refine tA h4 ?_
    refine Tr.at ?_
    refine lA 2 ?_
    obtain ⟨r3,er3,H⟩ := bs H
    refine vA [.rd] (J8 n x1.O r3 er3) ?_
    refine LAt.moveU (T := lk tab) (ty := 33) (x := (.tmp 27)) (d := 5) (g := none) false [cL 1 r3 zA] kr kr kr kr kr ?_
    refine dA 41 8 ?_
    refine rA 4 ?_
    obtain ⟨r4,er4,H⟩ := bs H
    refine vB [.rd,.rd,.rd] [.slot 5] (Zt n x0 x1.K r3 r4 er4) (.inr (zj (zL (ql (qL qH _)) za) z5)) ?_
    refine LAt.moveU (T := lk tab) (ty := 33) (x := (.tmp 32)) (d := 4) (g := none) false [cL 1 r4 zA] kr kr kr kr kr ?_
    refine dA 16 0 ?_
    exact te (fJ [(false,[cL 1 r4 zA])] H)
   refine tA h3 ?_
   refine Tr.at ?_
   refine lA 2 ?_
   obtain ⟨hg5,H⟩ := gs H
   refine LAt.s2b tOk (t := 9) (u := 33) (ty := 33) (x := (.tmp 21)) (d := 22) (g := none) (S := x1.S) kr kr kr kr kr kr hg5 ?_
   refine uA 1 41 8 ?_
   refine rA 4 ?_
   obtain ⟨r6,er6,H⟩ := bs H
   refine vA [.rd,.rd,.rd] (Zt n x0 x1.K (bytesOf x1.S) r6 er6) ?_
   refine LAt.moveU (T := lk tab) (ty := 33) (x := (.tmp 32)) (d := 4) (g := none) false [cL 1 r6 zA] kr kr kr kr kr ?_
   refine dA 16 0 ?_
   exact te (fJ [(false,[cL 1 r6 zA])] H)
  refine tA h2 ?_
  refine Tr.at ?_
  refine lA 2 ?_
  obtain ⟨r7,er7,H⟩ := bs H
  refine vA [.rd] (J7 n x1.N r7 er7) ?_
  refine LAt.moveU (T := lk tab) (ty := 33) (x := (.tmp 17)) (d := 5) (g := none) false [cL 1 r7 zA] kr kr kr kr kr ?_
  refine dA 41 8 ?_
  refine rA 4 ?_
  obtain ⟨r8,er8,H⟩ := bs H
  refine vB [.rd,.rd,.rd] [.slot 5] (Zt n x0 x1.K r7 r8 er8) (.inr (zj (zL (ql (qL qH _)) za) z5)) ?_
  refine LAt.moveU (T := lk tab) (ty := 33) (x := (.tmp 32)) (d := 4) (g := none) false [cL 1 r8 zA] kr kr kr kr kr ?_
  refine dA 16 0 ?_
  exact te (fJ [(false,[cL 1 r8 zA])] H)
 refine tA h1 ?_
 refine rA 1 ?_
 obtain ⟨r9,er9,H⟩ := bs H
 refine vA [.rd] (Y5 n x0 r9 er9) ?_
 refine LAt.moveU (T := lk tab) (ty := 33) (x := (.tmp 10)) (d := 4) (g := none) false [cL 1 r9 zA] kr kr kr kr kr ?_
 refine dA 16 0 ?_
 exact te (fJ [(false,[cL 1 r9 zA])] H)
def ZP (n : Nat) (x0 : (List Int)) (x1 : Int) (x2 : Int) : Option ((List Int)) :=
  ((ZJ n x2).bind fun r1 => ((qI n x0 x1 r1).bind fun r2 => (some r2)))
theorem Ys (n : Nat) (x0 : (List Int)) (x1 : Int) (x2 : Int) (r : (List Int)) (H : ZP n x0 x1 x2 = some r) : zJ Try.prog 92 [.val false [.sl false 1 (CV.frzEs (x0.map zA))],.val false [.lit (.int .i64 x1)],.val false [.lit (.int .i64 x2)]] [.val false [.sl true 1 (r.map zA)]] [] := by
 refine cW Try.func92 (fun g d => sl [g 0,g 1] .ret) [.tmp 6] fun cx => ?_
 unfold ZP at H
 refine gA 1 7 0 ?_
 refine rA 3 ?_
 obtain ⟨r1,er1,H⟩ := bs H
 refine vA [.rd] (J7 n x2 r1 er1) ?_
 obtain ⟨r2,er2,H⟩ := bs H
 refine vA [.rd,.rd,.rd] (Zt n x0 x1 r1 r2 er2) ?_
 refine LAt.moveU (T := lk tab) (ty := 33) (x := (.tmp 11)) (d := 6) (g := none) false [cL 1 r2 zA] kr kr kr kr kr ?_
 refine dA 64 0 ?_
 exact te (fJ [(false,[cL 1 r2 zA])] H)
def ZN (n : Nat) (x0 : Pdu) (y4 : (List Int)) : Option ((List Int)) :=
  ((ZB n 48 y4).bind fun r5 => (bif (!r5.2) then (some ([] : List Int)) else ((ZP n ([] : List Int) 2 x0.Id).bind fun r6 => ((ZP n r6 2 x0.A).bind fun r7 => ((ZP n r7 2 x0.B).bind fun r8 => (bif (decide (r8.length + r5.1.length ≤ 268435456)) then ((ZB n x0.Ki (r8 ++ r5.1)).bind fun r10 => (bif (!r10.2) then (some ([] : List Int)) else (some r10.1))) else none))))))
def qO (n : Nat) : Nat → Pdu → Int → (List Int) → Option (((List Int)) ⊕ ((List Int)))
  | 0,_,_,_ => none
  | mo11 + 1,x0,y2,y3 => (bif (decide (y2 < (x0.Binds.length : Int))) then ((idx x0.Binds y2).bind fun v12 => ((ZK n v12.O).bind fun r13 => ((qI n ([] : List Int) 6 r13).bind fun r14 => ((QB n r14 v12.V).bind fun r15 => ((ZB n 48 r15).bind fun r16 => (bif (!r16.2) then (some (Sum.inr ([] : List Int))) else (bif (decide (y3.length + r16.1.length ≤ 268435456)) then (qO n mo11 x0 (IntKind.wrap .i64 (y2 + 1)) (y3 ++ r16.1)) else none))))))) else (some (Sum.inl y3)))
def QA (n : Nat) (x0 : Pdu) : Option ((List Int)) :=
  ((QX n x0).bind fun r1 => (bif (!r1) then (some ([] : List Int)) else ((qO n n x0 0 ([] : List Int)).bind fun o => match o with | .inl y4 => (ZN n x0 y4) | .inr r => some r)))
def zEJ : Tab := ⟨13,[0,1,2,4,0,16,40,64,128,256,256,1023,4095],[0,1,2,4,0,16,40,64,128,256,256,512,1024],[0,1,3,7,0,16,63,127,255,511,511,1023,4095]⟩
theorem Qy : zp (rg Try.f45 7) zEJ = true := kr
def zD8 : Tab := ⟨19,[0,1,0,4,8,0,32,80,0,256,640,0,3072,4098,8192,16384,16384,65535,262143],[0,1,0,4,8,0,32,80,0,256,640,0,3072,4098,8192,16384,16384,32768,65536],[0,1,0,4,12,0,32,124,0,256,1020,0,4092,8191,16383,32767,32767,65535,262143]⟩
theorem Zi : zp (rg Try.f45 15) zD8 = true := kr
theorem zB6 (n : Nat) (x0 : Pdu) (r : (List Int)) (H : QA n x0 = some r) : zJ Try.prog 45 [.val true (CV.frzRow (Pdu.row x0))] [.val false [.sl true 1 (r.map zA)]] [] := by
 refine cW Try.func45 (fun g d => sl [g 0,sl [g 1] (cn 14 (sl [g 2] .ret) .skip),g 3,sl [g 4] (.block 0 (.loop (sl [g 5,cn 19 .skip (.exit 0),.block 1 (sl [g 6,d 7,sl [g 8] (cn 34 (sl [g 9] .ret) .skip)] (g 10))] (g 11)))),g 12,sl [g 13] (cn 45 (sl [g 14] .ret) .skip),d 15,sl [g 16] (cn 64 (sl [g 17] .ret) .skip),g 18] .ret) [.tmp 2] fun cx => ?_
 unfold QA at H
 refine gA 2 2 2 ?_
 refine tS ?_
 refine rA 1 ?_
 obtain ⟨r1,er1,H⟩ := bs H
 refine vA [.rd] (zCk n x0 r1 er1) ?_
 refine uA 1 16386 2 ?_
 obtain ⟨h1,H⟩ | ⟨h1,H⟩ := bC H
 ·refine nA h1 ?_
  refine tK ?_
  refine gA 1 10 2 ?_
  refine tS ?_
  refine rA 2 ?_
  refine kF x0.Binds zC.row ?_
  refine uA 1 458762 2 ?_
  obtain ⟨o11,eo11,Ho11⟩ := bs H
  clear H
  refine Tr.mid (ι := (List Int)) (fun v => ⟨66,0,[sC 3 (cL 1 v zA),sA 1 1 5 0],[(1,(CV.frzRow (Pdu.row x0)))]⟩) (fun v => ZN n x0 v = some r) ?_ ?_
  ·refine tB ?_
   refine Tr.loop (ι := Nat × (Int × (List Int))) (fun v => ⟨66,0,[sI 18 v.2.1,sI 17 (x0.Binds.length : Int),sC 16 (cF 5 x0.Binds zC.row),sC 3 (cL 1 v.2.2 zA),sA 1 1 5 0],[(1,(CV.frzRow (Pdu.row x0)))]⟩) (fun v => qO n v.1 x0 v.2.1 v.2.2 = some o11) (fun v => v.1) (n,(0,([] : List Int))) eo11 (St.sub_of [18,17,16,3,1] [1] kr) ?_
   rintro ⟨mo11,y2,y3⟩ H
   have H : qO n mo11 x0 y2 y3 = some o11 := H
   obtain _ | mo11 := mo11
   ·exact nN H
   rw [qO] at H
   refine gA 1 983050 2 ?_
   refine tS ?_
   obtain ⟨h4,H⟩ | ⟨h4,H⟩ := bC H
   ·refine nA h4 ?_
    refine Tr.exit ?_
    refine aJ ?_
    obtain rfl := si H
    have H := Ho11
    dsimp only at H
    exact jA y3 H [3,1] [1]
   refine tA h4 ?_
   refine tK ?_
   refine tS ?_
   refine tB ?_
   refine tR ?_
   obtain ⟨v12,ev12,H⟩ := bs H
   refine iA zC.row ev12 ?_
   refine uA 3 458794 34 ?_
   obtain ⟨r13,er13,H⟩ := bs H
   obtain ⟨r14,er14,H⟩ := bs H
   obtain ⟨r15,er15,H⟩ := bs H
   obtain ⟨r16,er16,H⟩ := bs H
   refine Tr.draws mixed 13 kr ⟨66,0,[sB 7 r16.2,sC 6 (cL 1 r16.1 zA),sI 18 y2,sI 17 (x0.Binds.length : Int),sC 16 (cF 5 x0.Binds zC.row),sC 3 (cL 1 y3 zA),sA 1 1 5 0],[(1,(CV.frzRow (Pdu.row x0)))]⟩ (fun cx => ?_) ?_
   ·refine mA Qy [(0,[]),(1,[2,3,6,7]),(4,[]),(5,[6,7])] 9 [⟨[6,7],66,27,28⟩,⟨[2,3,6,7],38,23,24⟩] fun cx => ?_
    refine mC Qy 2 ?_
    refine vA [.rd] (J8 n v12.O r13 er13) ?_
    refine fA ?_
    refine mC Qy 3 ?_
    refine vA [.rd,.rd,.rd] (Zt n ([] : List Int) 6 r13 r14 er14) ?_
    refine fA ?_
    refine mC Qy 6 ?_
    refine vA [.rd,.rd] (zB7 n r14 v12.V r15 er15) ?_
    refine fA ?_
    refine mC Qy 7 ?_
    refine vA [.rd,.rd] (JL n 48 r15 r16 er16) ?_
    refine fA ?_
    refine AT.movT tOk 8 (ty := 129) (t := 30) (d := 22) (g := none) [(false,[cL 1 r16.1 zA]),(false,[cB r16.2])] _ kr (oM Qy kr) (dM Qy kr) (.inl rfl) kr kr kr kr rfl (fun cx => ?_)
    refine mA Qy [(9,[]),(10,[])] 2 [⟨[6,7],66,27,28⟩,⟨[2,3,6,7],38,23,24⟩] fun cx => ?_
    refine mC Qy 11 ?_
    refine LAt.moveU (T := lk tab) (ty := 33) (x := (.tmp 31)) (d := 6) (g := none) false [cL 1 r16.1 zA] kr kr kr kr kr ?_
    refine fA ?_
    refine mA Qy [(12,[])] 0 [⟨[6,7],66,27,28⟩,⟨[2,3,6,7],38,23,24⟩] fun cx => ?_
    exact mE Qy [7,6,18,17,16,3,1] [1]
   refine tS ?_
   refine gA 2 17180328010 2 ?_
   obtain ⟨h5,H⟩ | ⟨h5,H⟩ := bC H
   ·refine nA h5 ?_
    refine tK ?_
    refine Tr.at ?_
    refine lA 2 ?_
    obtain ⟨hg17,H⟩ := gs H
    refine pC zA hg17 ?_
    refine LAt.moveU (T := lk tab) (ty := 33) (x := (.tmp 37)) (d := 3) (g := none) false [cL 1 (y3 ++ r16.1) zA] kr kr kr kr kr ?_
    refine dA 458762 2 ?_
    refine eA 2 458762 2 ?_
    exact jB mo11 ((IntKind.wrap .i64 (y2 + 1)),(y3 ++ r16.1)) H [18,17,16,3,1] [1]
   refine tA h5 ?_
   refine gA 1 4 0 ?_
   refine te ?_
   obtain rfl := si H
   have H := Ho11
   dsimp only at H
   exact fJ [(false,[cL 1 ([] : List Int) zA])] H
  rintro y4 H
  have H : (ZN n x0 y4) = some r := H
  unfold ZN at H
  refine rA 1 ?_
  obtain ⟨r5,er5,H⟩ := bs H
  refine vB [.rd,.rd] [.slot 3] (JL n 48 y4 r5 er5) (.inr (zj (zL (ql (qL qH _)) za) (zj (zL zm za) z5))) ?_
  refine LAt.movT tOk (ty := 129) (t := 41) (d := 39) (g := none) [(false,[cL 1 r5.1 zA]),(false,[cB r5.2])] _ kr (.inl rfl) kr kr kr kr rfl ?_
  refine lA 2 ?_
  refine LAt.moveU (T := lk tab) (ty := 33) (x := (.tmp 42)) (d := 8) (g := none) false [cL 1 r5.1 zA] kr kr kr kr kr ?_
  refine uA 1 770 2 ?_
  refine tS ?_
  refine gA 2 35184372089090 2 ?_
  obtain ⟨h2,H⟩ | ⟨h2,H⟩ := bC H
  ·refine nA h2 ?_
   refine tK ?_
   obtain ⟨r6,er6,H⟩ := bs H
   obtain ⟨r7,er7,H⟩ := bs H
   obtain ⟨r8,er8,H⟩ := bs H
   obtain ⟨hg9,H⟩ := gs H
   obtain ⟨r10,er10,H⟩ := bs H
   refine Tr.draws mixed 19 kr ⟨66,0,[sB 11 r10.2,sC 10 (cL 1 r10.1 zA)],[]⟩ (fun cx => ?_) ?_
   ·refine mA Zi [(0,[]),(1,[13]),(2,[]),(3,[4,7,10,12,13]),(5,[]),(6,[7,10,12,13]),(8,[]),(9,[10,12,13]),(11,[])] 10 [⟨[10,12,13],3,55,56⟩,⟨[7,10,12,13],3,52,53⟩,⟨[4,7,10,12,13],3,49,50⟩,⟨[13],3,47,48⟩] fun cx => ?_
    refine mC Zi 4 ?_
    refine vA [.rd,.rd,.rd] (Ys n ([] : List Int) 2 x0.Id r6 er6) ?_
    refine fA ?_
    refine mC Zi 7 ?_
    refine vA [.rd,.rd,.rd] (Ys n r6 2 x0.A r7 er7) ?_
    refine fA ?_
    refine mC Zi 10 ?_
    refine vA [.rd,.rd,.rd] (Ys n r7 2 x0.B r8 er8) ?_
    refine fA ?_
    refine mC Zi 12 ?_
    refine pC zA hg9 ?_
    refine fA ?_
    refine mC Zi 13 ?_
    refine vA [.rd,.rd] (JL n x0.Ki (r8 ++ r5.1) r10 er10) ?_
    refine fA ?_
    refine AT.movT tOk 14 (ty := 129) (t := 60) (d := 46) (g := none) [(false,[cL 1 r10.1 zA]),(false,[cB r10.2])] _ kr (oM Zi kr) (dM Zi kr) (.inl rfl) kr kr kr kr rfl (fun cx => ?_)
    refine mA Zi [(15,[]),(16,[])] 2 [⟨[10,12,13],3,55,56⟩,⟨[7,10,12,13],3,52,53⟩,⟨[4,7,10,12,13],3,49,50⟩,⟨[13],3,47,48⟩] fun cx => ?_
    refine mC Zi 17 ?_
    refine LAt.moveU (T := lk tab) (ty := 33) (x := (.tmp 61)) (d := 10) (g := none) false [cL 1 r10.1 zA] kr kr kr kr kr ?_
    refine fA ?_
    refine mA Zi [(18,[])] 0 [⟨[10,12,13],3,55,56⟩,⟨[7,10,12,13],3,52,53⟩,⟨[4,7,10,12,13],3,49,50⟩,⟨[13],3,47,48⟩] fun cx => ?_
    exact mE Zi [11,10] []
   refine tS ?_
   refine gA 2 0x10000000000000400 0 ?_
   obtain ⟨h3,H⟩ | ⟨h3,H⟩ := bC H
   ·refine nA h3 ?_
    refine tK ?_
    refine gA 2 1028 0 ?_
    exact te (fJ [(false,[cL 1 r10.1 zA])] H)
   refine tA h3 ?_
   refine gA 1 4 0 ?_
   exact te (fJ [(false,[cL 1 ([] : List Int) zA])] H)
  refine tA h2 ?_
  refine gA 1 4 0 ?_
  exact te (fJ [(false,[cL 1 ([] : List Int) zA])] H)
 refine tA h1 ?_
 refine gA 1 4 0 ?_
 exact te (fJ [(false,[cL 1 ([] : List Int) zA])] H)
def YQ (n : Nat) (x0 : Pdu) : Option (Bool) :=
  ((QA n x0).bind fun r1 => ((qp n (r1.length : Int) 1 120).bind fun r2 => (some r2)))
theorem zDJ (n : Nat) (x0 : Pdu) (r : Bool) (H : YQ n x0 = some r) : zJ Try.prog 11 [.val true (CV.frzRow (Pdu.row x0))] [.val false [.lit (.bool r)]] [] := by
 refine cW Try.func11 (fun g d => sl [g 0,g 1] .ret) [.tmp 2] fun cx => ?_
 unfold YQ at H
 refine gA 2 2 2 ?_
 refine rA 1 ?_
 obtain ⟨r1,er1,H⟩ := bs H
 refine vA [.rd] (zB6 n x0 r1 er1) ?_
 refine kO r1 zA ?_
 obtain ⟨r2,er2,H⟩ := bs H
 refine vA [.rd,.rd,.rd] (QP n (r1.length : Int) 1 120 r2 er2) ?_
 refine uA 1 4 0 ?_
 exact te (fJ [(false,[cB r2])] H)
def QQ (n : Nat) : Option (Bool) :=
  (some true)
def qc (n : Nat) : Nat → (List Int) → (List Int) → Int → Option ((Unit) ⊕ (Bool))
  | 0,_,_,_ => none
  | mo2 + 1,x0,x1,y1 => (bif (decide (y1 < (x0.length : Int))) then ((idx x0 y1).bind fun v3 => ((idx x1 y1).bind fun v4 => (bif (v3 != v4) then (some (Sum.inr false)) else (qc n mo2 x0 x1 (IntKind.wrap .i64 (y1 + 1)))))) else (some (Sum.inl ())))
def ZS (n : Nat) (x0 : (List Int)) (x1 : (List Int)) : Option (Bool) :=
  (bif ((x0.length : Int) != (x1.length : Int)) then (some false) else ((qc n n x0 x1 0).bind fun o => match o with | .inl _ => (QQ n) | .inr r => some r))
theorem zAB (n : Nat) (x0 : (List Int)) (x1 : (List Int)) (r : Bool) (H : ZS n x0 x1 = some r) : zJ Try.prog 146 [.val false [.sl false 1 (CV.frzEs (x0.map intRow))],.val false [.sl false 1 (CV.frzEs (x1.map intRow))]] [.val false [.lit (.bool r)]] [] := by
 refine cW Try.func146 (fun g d => sl [g 0,sl [g 1] (cn 10 (sl [g 2] .ret) .skip),sl [g 3] (.block 0 (.loop (sl [sl [g 4] (cn 14 .skip (.exit 0)),.block 1 (sl [d 6] (cn 25 (sl [g 7] .ret) .skip))] (g 5)))),g 8] .ret) [.tmp 4] fun cx => ?_
 unfold ZS at H
 refine gA 1 3 0 ?_
 refine tS ?_
 refine rA 1 ?_
 refine kF x0 intRow ?_
 refine lA 1 ?_
 refine kF x1 intRow ?_
 refine uA 1 1027 0 ?_
 obtain ⟨h1,H⟩ | ⟨h1,H⟩ := bC H
 ·refine nA h1 ?_
  refine tK ?_
  refine tS ?_
  refine gA 1 35 0 ?_
  obtain ⟨o2,eo2,Ho2⟩ := bs H
  clear H
  refine Tr.mid (ι := Unit) (fun v => ⟨26,0,[],[]⟩) (fun v => QQ n = some r) ?_ ?_
  ·refine tB ?_
   refine Tr.loop (ι := Nat × (Int)) (fun v => ⟨26,0,[sI 5 v.2,sC 0 (cF 1 x0 intRow),sC 1 (cF 1 x1 intRow)],[]⟩) (fun v => qc n v.1 x0 x1 v.2 = some o2) (fun v => v.1) (n,0) eo2 (St.sub_of [5,0,1] [] kr) ?_
   rintro ⟨mo2,y1⟩ H
   have H : qc n mo2 x0 x1 y1 = some o2 := H
   obtain _ | mo2 := mo2
   ·exact nN H
   rw [qc] at H
   refine tS ?_
   refine rA 2 ?_
   refine kF x0 intRow ?_
   refine uA 1 16419 0 ?_
   obtain ⟨h2,H⟩ | ⟨h2,H⟩ := bC H
   ·refine nA h2 ?_
    refine Tr.exit ?_
    refine aJ ?_
    obtain rfl := si H
    have H := Ho2
    dsimp only at H
    exact jA () H [] []
   refine tA h2 ?_
   refine tK ?_
   refine tS ?_
   refine tB ?_
   obtain ⟨v3,ev3,H⟩ := bs H
   obtain ⟨v4,ev4,H⟩ := bs H
   refine Tr.draws mixed 9 kr ⟨26,0,[sB 25 (v3 != v4),sI 5 y1,sC 0 (cF 1 x0 intRow),sC 1 (cF 1 x1 intRow)],[]⟩ (fun cx => ?_) ?_
   ·refine aA [(0,[]),(1,[])] 7 [] fun cx => ?_
    refine aI tOk 2 38 0 17 18 19 none ⟨(.slot 17),[],0,false,1,(CV.frzEs (x0.map intRow))⟩ y1 [cI v3] _ kr kr kr kr kr kr rfl (Qs ev3) rfl (fun cx => ?_)
    refine aA [(3,[]),(4,[]),(5,[])] 3 [] fun cx => ?_
    refine aI tOk 6 38 0 21 22 23 none ⟨(.slot 21),[],0,false,1,(CV.frzEs (x1.map intRow))⟩ y1 [cI v4] _ kr kr kr kr kr kr rfl (Qs ev4) rfl (fun cx => ?_)
    refine aA [(7,[]),(8,[])] 0 [] fun cx => ?_
    exact eE [25,5,0,1] []
   refine sT ⟨26,0,[sB 25 (v3 != v4),sI 5 y1,sC 0 (cF 1 x0 intRow),sC 1 (cF 1 x1 intRow)],[]⟩ ?_
   cases h3 : (v3 != v4)
   ·have H := zX h3 H
    refine nB_ ?_
    refine tK ?_
    refine eA 3 35 0 ?_
    exact jB mo2 (IntKind.wrap .i64 (y1 + 1)) H [5,0,1] []
   have H := zY h3 H
   refine tB_ ?_
   refine gA 1 16 0 ?_
   refine te ?_
   obtain rfl := si H
   have H := Ho2
   dsimp only at H
   exact fF H
  rintro _ H
  have H : (QQ n) = some r := H
  unfold QQ at H
  refine gA 1 16 0 ?_
  exact te (fT H)
 refine tA h1 ?_
 refine gA 1 16 0 ?_
 exact te (fF H)
def Qb (n : Nat) (x0 : Val) (x1 : Val) : Option (Bool) :=
  (bif (x0.K != x1.K) then (some false) else (bif (x0.N != x1.N) then (some false) else (bif (!(x0.S.toList == x1.S.toList)) then (some false) else ((ZS n x0.O x1.O).bind fun r1 => (bif (!r1) then (some false) else (some true))))))
theorem zCn (n : Nat) (x0 : Val) (x1 : Val) (r : Bool) (H : Qb n x0 x1 = some r) : zJ Try.prog 147 [.val true (CV.frzRow (Val.row x0)),.val true (CV.frzRow (Val.row x1))] [.val false [.lit (.bool r)]] [] := by
 refine cW Try.func147 (fun g d => sl [g 0,sl [g 1] (cn 9 (sl [g 2] .ret) .skip),sl [g 3] (cn 14 (sl [g 4] .ret) .skip),sl [g 5] (cn 19 (sl [g 6] .ret) .skip),sl [g 7] (cn 25 (sl [g 8] .ret) .skip),g 9] .ret) [.tmp 4] fun cx => ?_
 unfold Qb at H
 refine gA 3 12 12 ?_
 refine tS ?_
 refine gA 5 524 12 ?_
 obtain ⟨h1,H⟩ | ⟨h1,H⟩ := bC H
 ·refine nA h1 ?_
  refine tK ?_
  refine tS ?_
  refine gA 5 16396 12 ?_
  obtain ⟨h2,H⟩ | ⟨h2,H⟩ := bC H
  ·refine nA h2 ?_
   refine tK ?_
   refine tS ?_
   refine gA 5 524300 12 ?_
   obtain ⟨h3,H⟩ | ⟨h3,H⟩ := bC H
   ·refine nA h3 ?_
    refine tK ?_
    refine tS ?_
    refine rA 4 ?_
    obtain ⟨r1,er1,H⟩ := bs H
    refine vA [.rd,.rd] (zAB n x0.O x1.O r1 er1) ?_
    refine uA 1 33554432 0 ?_
    obtain ⟨h4,H⟩ | ⟨h4,H⟩ := bC H
    ·refine nA h4 ?_
     refine tK ?_
     refine gA 1 16 0 ?_
     exact te (fT H)
    refine tA h4 ?_
    refine gA 1 16 0 ?_
    exact te (fF H)
   refine tA h3 ?_
   refine gA 1 16 0 ?_
   exact te (fF H)
  refine tA h2 ?_
  refine gA 1 16 0 ?_
  exact te (fF H)
 refine tA h1 ?_
 refine gA 1 16 0 ?_
 exact te (fF H)
def ZR (n : Nat) (x0 : zC) (x1 : zC) : Option (Bool) :=
  ((ZS n x0.O x1.O).bind fun r1 => (bif (!r1) then (some false) else ((Qb n x0.V x1.V).bind fun r2 => (bif (!r2) then (some false) else (some true)))))
theorem zB8 (n : Nat) (x0 : zC) (x1 : zC) (r : Bool) (H : ZR n x0 x1 = some r) : zJ Try.prog 93 [.val true (CV.frzRow (zC.row x0)),.val true (CV.frzRow (zC.row x1))] [.val false [.lit (.bool r)]] [] := by
 refine cW Try.func93 (fun g d => sl [g 0,sl [g 1] (cn 10 (sl [g 2] .ret) .skip),sl [g 3] (cn 16 (sl [g 4] .ret) .skip),g 5] .ret) [.tmp 4] fun cx => ?_
 unfold ZR at H
 refine gA 3 12 12 ?_
 refine tS ?_
 refine rA 4 ?_
 obtain ⟨r1,er1,H⟩ := bs H
 refine vA [.rd,.rd] (zAB n x0.O x1.O r1 er1) ?_
 refine uA 1 1036 12 ?_
 obtain ⟨h1,H⟩ | ⟨h1,H⟩ := bC H
 ·refine nA h1 ?_
  refine tK ?_
  refine tS ?_
  refine rA 4 ?_
  obtain ⟨r2,er2,H⟩ := bs H
  refine vA [.rd,.rd] (zCn n x0.V x1.V r2 er2) ?_
  refine uA 1 65536 0 ?_
  obtain ⟨h2,H⟩ | ⟨h2,H⟩ := bC H
  ·refine nA h2 ?_
   refine tK ?_
   refine gA 1 16 0 ?_
   exact te (fT H)
  refine tA h2 ?_
  refine gA 1 16 0 ?_
  exact te (fF H)
 refine tA h1 ?_
 refine gA 1 16 0 ?_
 exact te (fF H)
def Zy (n : Nat) : Option (Bool) :=
  (some true)
def qE (n : Nat) : Nat → (List zC) → (List zC) → Int → Option ((Unit) ⊕ (Bool))
  | 0,_,_,_ => none
  | mo2 + 1,x0,x1,y1 => (bif (decide (y1 < (x0.length : Int))) then ((idx x0 y1).bind fun v3 => ((idx x1 y1).bind fun v4 => ((ZR n v3 v4).bind fun r5 => (bif (!r5) then (some (Sum.inr false)) else (qE n mo2 x0 x1 (IntKind.wrap .i64 (y1 + 1))))))) else (some (Sum.inl ())))
def Zm (n : Nat) (x0 : (List zC)) (x1 : (List zC)) : Option (Bool) :=
  (bif ((x0.length : Int) != (x1.length : Int)) then (some false) else ((qE n n x0 x1 0).bind fun o => match o with | .inl _ => (Zy n) | .inr r => some r))
theorem zBk (n : Nat) (x0 : (List zC)) (x1 : (List zC)) (r : Bool) (H : Zm n x0 x1 = some r) : zJ Try.prog 46 [.val false [.sl false 5 (CV.frzEs (x0.map zC.row))],.val false [.sl false 5 (CV.frzEs (x1.map zC.row))]] [.val false [.lit (.bool r)]] [] := by
 refine cW Try.func46 (fun g d => sl [g 0,sl [g 1] (cn 10 (sl [g 2] .ret) .skip),sl [g 3] (.block 0 (.loop (sl [sl [g 4] (cn 14 .skip (.exit 0)),.block 1 (sl [d 6] (cn 26 (sl [g 7] .ret) .skip))] (g 5)))),g 8] .ret) [.tmp 4] fun cx => ?_
 unfold Zm at H
 refine gA 1 3 0 ?_
 refine tS ?_
 refine rA 1 ?_
 refine kF x0 zC.row ?_
 refine lA 1 ?_
 refine kF x1 zC.row ?_
 refine uA 1 1027 0 ?_
 obtain ⟨h1,H⟩ | ⟨h1,H⟩ := bC H
 ·refine nA h1 ?_
  refine tK ?_
  refine tS ?_
  refine gA 1 35 0 ?_
  obtain ⟨o2,eo2,Ho2⟩ := bs H
  clear H
  refine Tr.mid (ι := Unit) (fun v => ⟨27,0,[],[]⟩) (fun v => Zy n = some r) ?_ ?_
  ·refine tB ?_
   refine Tr.loop (ι := Nat × (Int)) (fun v => ⟨27,0,[sI 5 v.2,sC 0 (cF 5 x0 zC.row),sC 1 (cF 5 x1 zC.row)],[]⟩) (fun v => qE n v.1 x0 x1 v.2 = some o2) (fun v => v.1) (n,0) eo2 (St.sub_of [5,0,1] [] kr) ?_
   rintro ⟨mo2,y1⟩ H
   have H : qE n mo2 x0 x1 y1 = some o2 := H
   obtain _ | mo2 := mo2
   ·exact nN H
   rw [qE] at H
   refine tS ?_
   refine rA 2 ?_
   refine kF x0 zC.row ?_
   refine uA 1 16419 0 ?_
   obtain ⟨h2,H⟩ | ⟨h2,H⟩ := bC H
   ·refine nA h2 ?_
    refine Tr.exit ?_
    refine aJ ?_
    obtain rfl := si H
    have H := Ho2
    dsimp only at H
    exact jA () H [] []
   refine tA h2 ?_
   refine tK ?_
   refine tS ?_
   refine tB ?_
   obtain ⟨v3,ev3,H⟩ := bs H
   obtain ⟨v4,ev4,H⟩ := bs H
   obtain ⟨r5,er5,H⟩ := bs H
   refine Tr.draws mixed 10 kr ⟨27,0,[sB 26 (!r5),sI 5 y1,sC 0 (cF 5 x0 zC.row),sC 1 (cF 5 x1 zC.row)],[]⟩ (fun cx => ?_) ?_
   ·refine aA [(0,[]),(1,[])] 8 [] fun cx => ?_
    refine aI tOk 2 27 0 17 18 19 none ⟨(.slot 17),[],0,false,5,(CV.frzEs (x0.map zC.row))⟩ y1 (CV.frzRow (zC.row v3)) _ kr kr kr kr kr kr rfl (Qs ev3) rfl (fun cx => ?_)
    refine aA [(3,[]),(4,[]),(5,[])] 4 [] fun cx => ?_
    refine aI tOk 6 27 0 21 22 23 none ⟨(.slot 21),[],0,false,5,(CV.frzEs (x1.map zC.row))⟩ y1 (CV.frzRow (zC.row v4)) _ kr kr kr kr kr kr rfl (Qs ev4) rfl (fun cx => ?_)
    refine aA [(7,[])] 2 [] fun cx => ?_
    refine bA 8 ?_
    refine vA [.rd,.rd] (zB8 n v3 v4 r5 er5) ?_
    refine fA ?_
    refine aA [(9,[])] 0 [] fun cx => ?_
    exact eE [26,5,0,1] []
   refine sT ⟨27,0,[sB 26 (!r5),sI 5 y1,sC 0 (cF 5 x0 zC.row),sC 1 (cF 5 x1 zC.row)],[]⟩ ?_
   cases h3 : (!r5)
   ·have H := zX h3 H
    refine nB_ ?_
    refine tK ?_
    refine eA 3 35 0 ?_
    exact jB mo2 (IntKind.wrap .i64 (y1 + 1)) H [5,0,1] []
   have H := zY h3 H
   refine tB_ ?_
   refine gA 1 16 0 ?_
   refine te ?_
   obtain rfl := si H
   have H := Ho2
   dsimp only at H
   exact fF H
  rintro _ H
  have H : (Zy n) = some r := H
  unfold Zy at H
  refine gA 1 16 0 ?_
  exact te (fT H)
 refine tA h1 ?_
 refine gA 1 16 0 ?_
 exact te (fF H)
def Qa (n : Nat) (x0 : Pdu) (x1 : Pdu) : Option (Bool) :=
  (bif (x0.Ki != x1.Ki) then (some false) else (bif (x0.Id != x1.Id) then (some false) else (bif (x0.A != x1.A) then (some false) else (bif (x0.B != x1.B) then (some false) else ((Zm n x0.Binds x1.Binds).bind fun r1 => (bif (!r1) then (some false) else (some true)))))))
theorem zCm (n : Nat) (x0 : Pdu) (x1 : Pdu) (r : Bool) (H : Qa n x0 x1 = some r) : zJ Try.prog 12 [.val true (CV.frzRow (Pdu.row x0)),.val true (CV.frzRow (Pdu.row x1))] [.val false [.lit (.bool r)]] [] := by
 refine cW Try.func12 (fun g d => sl [g 0,sl [g 1] (cn 9 (sl [g 2] .ret) .skip),sl [g 3] (cn 14 (sl [g 4] .ret) .skip),sl [g 5] (cn 19 (sl [g 6] .ret) .skip),sl [g 7] (cn 24 (sl [g 8] .ret) .skip),sl [g 9] (cn 30 (sl [g 10] .ret) .skip),g 11] .ret) [.tmp 4] fun cx => ?_
 unfold Qa at H
 refine gA 3 12 12 ?_
 refine tS ?_
 refine gA 5 524 12 ?_
 obtain ⟨h1,H⟩ | ⟨h1,H⟩ := bC H
 ·refine nA h1 ?_
  refine tK ?_
  refine tS ?_
  refine gA 5 16396 12 ?_
  obtain ⟨h2,H⟩ | ⟨h2,H⟩ := bC H
  ·refine nA h2 ?_
   refine tK ?_
   refine tS ?_
   refine gA 5 524300 12 ?_
   obtain ⟨h3,H⟩ | ⟨h3,H⟩ := bC H
   ·refine nA h3 ?_
    refine tK ?_
    refine tS ?_
    refine gA 5 16777228 12 ?_
    obtain ⟨h4,H⟩ | ⟨h4,H⟩ := bC H
    ·refine nA h4 ?_
     refine tK ?_
     refine tS ?_
     refine rA 4 ?_
     obtain ⟨r1,er1,H⟩ := bs H
     refine vA [.rd,.rd] (zBk n x0.Binds x1.Binds r1 er1) ?_
     refine uA 1 1073741824 0 ?_
     obtain ⟨h5,H⟩ | ⟨h5,H⟩ := bC H
     ·refine nA h5 ?_
      refine tK ?_
      refine gA 1 16 0 ?_
      exact te (fT H)
     refine tA h5 ?_
     refine gA 1 16 0 ?_
     exact te (fF H)
    refine tA h4 ?_
    refine gA 1 16 0 ?_
    exact te (fF H)
   refine tA h3 ?_
   refine gA 1 16 0 ?_
   exact te (fF H)
  refine tA h2 ?_
  refine gA 1 16 0 ?_
  exact te (fF H)
 refine tA h1 ?_
 refine gA 1 16 0 ?_
 exact te (fF H)
def ZI (n : Nat) (x0 : Pdu) : Option (Bool) :=
  ((Qc n x0 1048576).bind fun r1 => (bif (decide (r1 < 0)) then (some true) else ((ZG n x0).bind fun r2 => ((YV n r2).bind fun r3 => ((ZG n x0).bind fun r4 => ((YQ n r4).bind fun r5 => (bif (!(r5 == r3)) then (some false) else ((ZG n x0).bind fun r6 => ((Qa n r4 r6).bind fun r7 => (bif (!r7) then (some false) else (some true)))))))))))
theorem zAQ (n : Nat) (x0 : Pdu) (r : Bool) (H : ZI n x0 = some r) : zJ Try.prog 3 [.val true (CV.frzRow (Pdu.row x0))] [.val false [.lit (.bool r)]] [] := by
 refine cW Try.func3 (fun g d => sl [g 0,g 1,g 2,sl [g 3] (cn 11 (sl [g 4] .ret) .skip),g 5,g 6,g 7,sl [g 8] (cn 21 (sl [g 9] .ret) .skip),sl [d 10] (cn 26 (sl [g 11] .ret) .skip),g 12] .ret) [.tmp 2] fun cx => ?_
 unfold ZI at H
 refine gA 2 2 2 ?_
 refine gA 1 10 2 ?_
 refine rA 2 ?_
 obtain ⟨r1,er1,H⟩ := bs H
 refine vA [.rd,.rd] (zCo n x0 1048576 r1 er1) ?_
 refine uA 1 10 2 ?_
 refine tS ?_
 refine gA 2 2050 2 ?_
 obtain ⟨h1,H⟩ | ⟨h1,H⟩ := bC H
 ·refine nA h1 ?_
  refine tK ?_
  refine rA 1 ?_
  obtain ⟨r2,er2,H⟩ := bs H
  refine vA [.rd] (JN n x0 r2 er2) ?_
  obtain ⟨r3,er3,H⟩ := bs H
  refine vA [.rd] (zDT n r2 r3 er3) ?_
  refine uA 1 18 2 ?_
  refine rA 1 ?_
  obtain ⟨r4,er4,H⟩ := bs H
  refine vA [.rd] (JN n x0 r4 er4) ?_
  refine uA 2 50 34 ?_
  refine rA 1 ?_
  obtain ⟨r5,er5,H⟩ := bs H
  refine vB [.rd] [.box 5] (zDJ n r4 r5 er5) (.inr (zj (zL zm za) z5)) ?_
  refine uA 1 114 34 ?_
  refine tS ?_
  refine gA 3 2097186 34 ?_
  obtain ⟨h2,H⟩ | ⟨h2,H⟩ := bC H
  ·refine nA h2 ?_
   refine tK ?_
   refine tS ?_
   obtain ⟨r6,er6,H⟩ := bs H
   obtain ⟨r7,er7,H⟩ := bs H
   refine Tr.draws mixed 5 kr ⟨27,0,[sB 26 (!r7)],[]⟩ (fun cx => ?_) ?_
   ·refine aA [(0,[3]),(1,[2,3])] 3 [⟨[2,3],24,1,23⟩,⟨[3],29,5,22⟩] fun cx => ?_
    refine bA 2 ?_
    refine vA [.rd] (JN n x0 r6 er6) ?_
    refine fA ?_
    refine bA 3 ?_
    refine vB [.rd,.rd] [.box 5] (zCm n r4 r6 r7 er7) (.inr (zj (zL zm za) z5)) ?_
    refine fA ?_
    refine aA [(4,[])] 0 [⟨[2,3],24,1,23⟩,⟨[3],29,5,22⟩] fun cx => ?_
    exact eE [26] []
   refine sT ⟨27,0,[sB 26 (!r7)],[]⟩ ?_
   cases h3 : (!r7)
   ·have H := zX h3 H
    refine nB_ ?_
    refine tK ?_
    refine gA 1 4 0 ?_
    exact te (fT H)
   have H := zY h3 H
   refine tB_ ?_
   refine gA 1 4 0 ?_
   exact te (fF H)
  refine tA h2 ?_
  refine gA 1 4 0 ?_
  exact te (fF H)
 refine tA h1 ?_
 refine gA 1 4 0 ?_
 exact te (fT H)
end Go.Proofs.Ytajadnlejdpceaa.Tw
