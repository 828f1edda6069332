import Derived.Test.YtajadnlejdpceaaGreatProg
import Derived.Test.YtajadnlejdpceaaGreatTlRule
import Derived.Test.YtajadnlejdpceaaGreatTlU15
import Derived.Test.YtajadnlejdpceaaGreatTwNT0
import Derived.WalkKit
set_option linter.unusedVariables false
set_option linter.unusedSimpArgs false
set_option maxRecDepth 100000
set_option maxHeartbeats 1000000
namespace Go.Proofs.YtajadnlejdpceaaGreat.Tw
open Go Go.TL Go.Proofs
def zAf (n : Nat) (x0 : Net) : Option (Bool) :=
  ((zAk n x0).bind fun r4 => (some r4))
def ZY (n : Nat) : Nat → Net → Int → Option ((Unit) ⊕ (Bool))
  | 0,_,_ => none
  | mo5 + 1,x0,y3 => (bif (decide (y3 < (x0.Said.length : Int))) then ((idx x0.Said y3).bind fun v6 => ((qE n v6.Link 0 (IntKind.wrap .i64 ((x0.Ls.length : Int) - 1))).bind fun r7 => (bif (!r7) then (some (Sum.inr false)) else ((Y1 n v6.V).bind fun r8 => (bif (!r8) then (some (Sum.inr false)) else (ZY n mo5 x0 (IntKind.wrap .i64 (y3 + 1)))))))) else (some (Sum.inl ())))
def JX (n : Nat) (x0 : Net) : Option (Bool) :=
  ((ZY n n x0 0).bind fun o => match o with | .inl _ => (zAf n x0) | .inr r => some r)
def zAh (n : Nat) (k : (Int → Option ((Unit) ⊕ (Bool)))) (y2 : Int) (y16 : Int) : Option ((Unit) ⊕ (Bool)) :=
  (k (IntKind.wrap .i64 (y2 + 1)))
def Zl (n : Nat) : Nat → zA → Net → Int → Int → Option ((Int) ⊕ (Bool))
  | 0,_,_,_,_ => none
  | mo17 + 1,v10,x0,y2,y15 => (bif (decide (y15 < (v10.Ps.length : Int))) then ((idx v10.Ps y15).bind fun v18 => (bif v18.Has then ((zAV n x0.Ls y2 y15).bind fun r19 => (bif (!r19) then (some (Sum.inr false)) else (Zl n mo17 v10 x0 y2 (IntKind.wrap .i64 (y15 + 1))))) else (Zl n mo17 v10 x0 y2 (IntKind.wrap .i64 (y15 + 1))))) else (some (Sum.inl y15)))
def zAg (n : Nat) (k : (Int → Option ((Unit) ⊕ (Bool)))) (v10 : zA) (x0 : Net) (y2 : Int) (y14 : Int) : Option ((Unit) ⊕ (Bool)) :=
  ((Zl n n v10 x0 y2 0).bind fun o => match o with | .inl y16 => (zAh n k y2 y16) | .inr r => some (Sum.inr r))
def QF (n : Nat) : Nat → zA → Net → Int → Int → Option ((Int) ⊕ (Bool))
  | 0,_,_,_,_ => none
  | mo20 + 1,v10,x0,y2,y13 => (bif (decide (y13 < (((x0.Bs.drop ((0 : Int)).toNat).take (((y2 : Int)).toNat - ((0 : Int)).toNat)).length : Int))) then ((idx ((x0.Bs.drop ((0 : Int)).toNat).take (((y2 : Int)).toNat - ((0 : Int)).toNat)) y13).bind fun v21 => (bif (v21.Id == v10.Id) then (some (Sum.inr false)) else (QF n mo20 v10 x0 y2 (IntKind.wrap .i64 (y13 + 1))))) else (some (Sum.inl y13)))
def qb (n : Nat) : Nat → Net → Int → Option ((Unit) ⊕ (Bool))
  | 0,_,_ => none
  | mo9 + 1,x0,y2 => (bif (decide (y2 < (x0.Bs.length : Int))) then ((idx x0.Bs y2).bind fun v10 => ((Qv n v10).bind fun r11 => (bif (!r11) then (some (Sum.inr false)) else (bif (decide ((0 : Int) ≤ 0) && (decide ((0 : Int) ≤ y2) && decide ((y2 : Int) ≤ (x0.Bs.length : Int)))) then ((QF n n v10 x0 y2 0).bind fun o => match o with | .inl y14 => (zAg n (fun v => qb n mo9 x0 v) v10 x0 y2 y14) | .inr r => some (Sum.inr r)) else none)))) else (some (Sum.inl ())))
def ZT (n : Nat) (x0 : Net) : Option (Bool) :=
  ((qE n (x0.Bs.length : Int) 1 6).bind fun r1 => (bif (!r1) then (some false) else (bif (decide ((x0.Said.length : Int) > 40)) then (some false) else ((qb n n x0 0).bind fun o => match o with | .inl _ => (JX n x0) | .inr r => some r))))
theorem zEh (n : Nat) (x0 : Net) (r : Bool) (H : ZT n x0 = some r) : zJ Tryz.prog 47 [.val true (fR (Net.row x0))] [.val false [.lit (.bool r)]] [] := by
 refine cW Tryz.func47 (fun g d => sl [g 0,sl [g 1] (cn 21 (sl [g 2] .ret) .skip),sl [g 3] (.block 0 (.loop (sl [g 4,cn 26 .skip (.exit 0),.block 1 (sl [g 5,sl [g 6] (cn 32 (sl [g 7] .ret) .skip),sl [g 8] (.block 2 (.loop (sl [g 9,cn 39 .skip (.exit 2),.block 3 (sl [g 10,g 11] (cn 46 (sl [g 12] .ret) .skip))] (g 13)))),g 14] (.block 4 (.loop (sl [g 15,cn 52 .skip (.exit 4),.block 5 (sl [g 16,g 17] (cn 65 (sl [g 18] .ret) .skip))] (g 19)))))] (g 20)))),sl [g 21] (.block 6 (.loop (sl [g 22,cn 72 .skip (.exit 6),.block 7 (sl [g 23,g 24] (cn 88 (sl [g 25] .ret) .skip))] (g 26)))),g 27] .ret) [.tmp 2] fun cx=>?_
 unfold ZT at H
 refine gA 2 6 2<|tS<|rA 2<|kF x0.Bs zA.row<|bE H fun r1 er1 H=> vA [.rd,.rd,.rd] (qU n (x0.Bs.length : Int) 1 6 r1 er1)<|lA 2 ?_
 obtain ⟨h1,H⟩ | ⟨h1,H⟩ := bC H
 ·refine qL 65542 2 [16] h1<|lA 2<|kF x0.Said Say.row<|uA 2 2097158 2 ?_
  obtain ⟨h2,H⟩ | ⟨h2,H⟩ := bC H
  ·refine nA h2<|tK<|tS<|rA 2<|kF x0.Bs zA.row<|uA 1 58720262 2 ?_
   obtain ⟨o9,eo9,Ho9⟩ := bs H
   clear H
   refine Tr.mid (ι := Unit) (fun v => ⟨92,0,[sB 2 false,sA 1 1 3 0],[(1,(fR (Net.row x0)))]⟩) (fun v => JX n x0 = some r) ?_ ?_
   ·refine tB<|Tr.loop (ι := Nat × (Int)) (fun v => ⟨92,0,[sI 25 v.2,sI 24 (x0.Bs.length : Int),sC 23 (cF 11 x0.Bs zA.row),sB 2 false,sA 1 1 3 0],[(1,(fR (Net.row x0)))]⟩) (fun v => qb n v.1 x0 v.2 = some o9) (fun v => v.1) (n,0) eo9 (St.sub_of [25,24,23,2,1] [1] kr) ?_
    rintro ⟨mo9,y2⟩ H
    have H : qb n mo9 x0 y2 = some o9 := H
    obtain _ | mo9 := mo9
    ·exact nN H
    rw [qb] at H
    refine gA 1 125829126 2<|tS ?_
    obtain ⟨h6,H⟩ | ⟨h6,H⟩ := bC H
    ·refine nA h6<|Tr.exit<|aJ ?_
     obtain rfl := si H
     have H := Ho9
     dsimp only at H
     exact jA () H [2,1] [1]
    refine tA h6<|tK<|tS<|tB<|rA 1<|bE H fun v10 ev10 H=> iA zA.row ev10<|uA 4 1065353246 18<|tS<|rA 1<|bE H fun r11 er11 H=> vA [.rd] (zGr n v10 r11 er11)<|uA 1 8581546014 18 ?_
    obtain ⟨h7,H⟩ | ⟨h7,H⟩ := bC H
    ·refine nA h7<|tK<|tS<|rA 3<|gE H fun hg12 H=> LAt.cutG tOk (t := 49) (ty := 49) (e := 31) (x := (.tmp 34)) (lo := none) (hi := (some (.tmp 35))) (d := 36) (g := none) (tI 31) zA.row x0.Bs ⟨(.slot 34),[],0,false,11,(CV.frzEs (x0.Bs.map zA.row))⟩ 0 y2 kr kr kr kr kr kr rfl kr rfl kr kr hg12<|kF ((x0.Bs.drop ((0 : Int)).toNat).take (((y2 : Int)).toNat - ((0 : Int)).toNat)) zA.row<|uA 1 549747425310 18<|sT ⟨92,0,[sI 38 0,sI 37 (((x0.Bs.drop ((0 : Int)).toNat).take (((y2 : Int)).toNat - ((0 : Int)).toNat)).length : Int),sC 36 (cF 11 ((x0.Bs.drop ((0 : Int)).toNat).take (((y2 : Int)).toNat - ((0 : Int)).toNat)) zA.row),sI 35 y2,sC 34 (cF 11 x0.Bs zA.row),sA 33 1 3 0,sB 32 (!r11),sB 31 r11,sV 30 (fR (zA.row v10)),sI 3 y2,sA 4 4 11 0,sV 29 (fR (zA.row v10)),(28,.fad ((fR (zA.row v10)))),sI 27 y2,sB 26 (decide (y2 < (x0.Bs.length : Int))),sI 25 y2,sI 24 (x0.Bs.length : Int),sC 23 (cF 11 x0.Bs zA.row),sB 2 false,sA 1 1 3 0],[(4,(fR (zA.row v10))),(1,(fR (Net.row x0)))]⟩ ?_
     rw [h6]
     rw [h7]
     obtain ⟨o20,eo20,Ho20⟩ := bs H
     clear H
     refine Tr.mid (ι := Int) (fun v => ⟨92,0,[sB 39 false,sI 38 v,sI 37 (((x0.Bs.drop ((0 : Int)).toNat).take (((y2 : Int)).toNat - ((0 : Int)).toNat)).length : Int),sC 36 (cF 11 ((x0.Bs.drop ((0 : Int)).toNat).take (((y2 : Int)).toNat - ((0 : Int)).toNat)) zA.row),sI 35 y2,sC 34 (cF 11 x0.Bs zA.row),sA 33 1 3 0,sB 32 false,sB 31 r11,sV 30 (fR (zA.row v10)),sI 3 y2,sA 4 4 11 0,sV 29 (fR (zA.row v10)),(28,.fad ((fR (zA.row v10)))),sI 27 y2,sB 26 true,sI 25 y2,sI 24 (x0.Bs.length : Int),sC 23 (cF 11 x0.Bs zA.row),sB 2 false,sA 1 1 3 0],[(4,(fR (zA.row v10))),(1,(fR (Net.row x0)))]⟩) (fun v => zAg n (fun v => qb n mo9 x0 v) v10 x0 y2 v = some o9) ?_ ?_
     ·refine tB<|Tr.loop (ι := Nat × (Int)) (fun v => ⟨92,0,[sI 38 v.2,sI 37 (((x0.Bs.drop ((0 : Int)).toNat).take (((y2 : Int)).toNat - ((0 : Int)).toNat)).length : Int),sC 36 (cF 11 ((x0.Bs.drop ((0 : Int)).toNat).take (((y2 : Int)).toNat - ((0 : Int)).toNat)) zA.row),sI 35 y2,sC 34 (cF 11 x0.Bs zA.row),sA 33 1 3 0,sB 32 false,sB 31 r11,sV 30 (fR (zA.row v10)),sI 3 y2,sA 4 4 11 0,sV 29 (fR (zA.row v10)),(28,.fad ((fR (zA.row v10)))),sI 27 y2,sB 26 true,sI 25 y2,sI 24 (x0.Bs.length : Int),sC 23 (cF 11 x0.Bs zA.row),sB 2 false,sA 1 1 3 0],[(4,(fR (zA.row v10))),(1,(fR (Net.row x0)))]⟩) (fun v => QF n v.1 v10 x0 y2 v.2 = some o20) (fun v => v.1) (n,0) eo20 (St.sub_of [38,37,36,35,34,33,32,31,30,3,4,29,28,27,26,25,24,23,2,1] [4,1] kr) ?_
      rintro ⟨mo20,y13⟩ H
      have H : QF n mo20 v10 x0 y2 y13 = some o20 := H
      obtain _ | mo20 := mo20
      ·exact nN H
      rw [QF] at H
      refine gA 1 0xffff80001e 18<|tS ?_
      obtain ⟨h11,H⟩ | ⟨h11,H⟩ := bC H
      ·refine nA h11<|Tr.exit<|aJ ?_
       obtain rfl := si H
       have H := Ho20
       dsimp only at H
       exact qB 0xffff80001e 18 [39] h11<|jA y13 H [39,38,37,36,35,34,33,32,31,30,3,4,29,28,27,26,25,24,23,2,1] [4,1]
      refine tA h11<|tK<|tS<|tB<|tR<|bE H fun v21 ev21 H=> iA zA.row ev21<|uA 3 4398038122590 82<|gA 5 0x7fffff80005e 82 ?_
      obtain ⟨h12,H⟩ | ⟨h12,H⟩ := bC H
      ·exact nA h12<|tK<|eA 2 0xffffff80005e 82<|jB mo20 (wI (y13 + 1)) H [38,37,36,35,34,33,32,31,30,3,4,29,28,27,26,25,24,23,2,1] [4,1]
      refine tA h12<|gA 1 0x7fffff80005e 82<|te ?_
      obtain rfl := si H
      have H := Ho20
      dsimp only at H
      obtain rfl := si H
      have H := Ho9
      dsimp only at H
      exact fF H
     rintro y14 H
     have H : (zAg n (fun v => qb n mo9 x0 v) v10 x0 y2 y14) = some o9 := H
     unfold zAg at H
     refine rA 2<|kF v10.Ps Pt.row<|uA 1 0xf00ffff80001e 18 ?_
     obtain ⟨o17,eo17,Ho17⟩ := bs H
     clear H
     refine Tr.mid (ι := Int) (fun v => ⟨92,0,[sB 52 false,sI 51 v,sI 50 (v10.Ps.length : Int),sC 49 (cF 8 v10.Ps Pt.row),sA 48 4 11 2,sB 39 false,sI 38 y14,sI 37 (((x0.Bs.drop ((0 : Int)).toNat).take (((y2 : Int)).toNat - ((0 : Int)).toNat)).length : Int),sC 36 (cF 11 ((x0.Bs.drop ((0 : Int)).toNat).take (((y2 : Int)).toNat - ((0 : Int)).toNat)) zA.row),sI 35 y2,sC 34 (cF 11 x0.Bs zA.row),sA 33 1 3 0,sB 32 false,sB 31 r11,sV 30 (fR (zA.row v10)),sI 3 y2,sA 4 4 11 0,sV 29 (fR (zA.row v10)),(28,.fad ((fR (zA.row v10)))),sI 27 y2,sB 26 true,sI 25 y2,sI 24 (x0.Bs.length : Int),sC 23 (cF 11 x0.Bs zA.row),sB 2 false,sA 1 1 3 0],[(4,(fR (zA.row v10))),(1,(fR (Net.row x0)))]⟩) (fun v => zAh n (fun v => qb n mo9 x0 v) y2 v = some o9) ?_ ?_
     ·refine tB<|Tr.loop (ι := Nat × (Int)) (fun v => ⟨92,0,[sI 51 v.2,sI 50 (v10.Ps.length : Int),sC 49 (cF 8 v10.Ps Pt.row),sA 48 4 11 2,sB 39 false,sI 38 y14,sI 37 (((x0.Bs.drop ((0 : Int)).toNat).take (((y2 : Int)).toNat - ((0 : Int)).toNat)).length : Int),sC 36 (cF 11 ((x0.Bs.drop ((0 : Int)).toNat).take (((y2 : Int)).toNat - ((0 : Int)).toNat)) zA.row),sI 35 y2,sC 34 (cF 11 x0.Bs zA.row),sA 33 1 3 0,sB 32 false,sB 31 r11,sV 30 (fR (zA.row v10)),sI 3 y2,sA 4 4 11 0,sV 29 (fR (zA.row v10)),(28,.fad ((fR (zA.row v10)))),sI 27 y2,sB 26 true,sI 25 y2,sI 24 (x0.Bs.length : Int),sC 23 (cF 11 x0.Bs zA.row),sB 2 false,sA 1 1 3 0],[(4,(fR (zA.row v10))),(1,(fR (Net.row x0)))]⟩) (fun v => Zl n v.1 v10 x0 y2 v.2 = some o17) (fun v => v.1) (n,0) eo17 (St.sub_of [51,50,49,48,39,38,37,36,35,34,33,32,31,30,3,4,29,28,27,26,25,24,23,2,1] [4,1] kr) ?_
      rintro ⟨mo17,y15⟩ H
      have H : Zl n mo17 v10 x0 y2 y15 = some o17 := H
      obtain _ | mo17 := mo17
      ·exact nN H
      rw [Zl] at H
      refine gA 1 8726823781269534 18<|tS ?_
      obtain ⟨h8,H⟩ | ⟨h8,H⟩ := bC H
      ·refine nA h8<|Tr.exit<|aJ ?_
       obtain rfl := si H
       have H := Ho17
       dsimp only at H
       exact qB 8726823781269534 18 [52] h8<|jA y15 H [52,51,50,49,48,39,38,37,36,35,34,33,32,31,30,3,4,29,28,27,26,25,24,23,2,1] [4,1]
      refine tA h8<|tK<|tS<|tB<|rA 1<|bE H fun v18 ev18 H=> iA Pt.row ev18<|uA 4 0xff00ffff80019e 274<|rA 3 ?_
      obtain ⟨h9,H⟩ | ⟨h9,H⟩ := bC H
      ·exact qL 0x7ff00ffff80019e 274 [58,57] h9<|uA 7 0x3ffff00ffff80019e 274<|nB_<|tK<|eA 2 0x7ffff00ffff80019e 274<|jB mo17 (wI (y15 + 1)) H [51,50,49,48,39,38,37,36,35,34,33,32,31,30,3,4,29,28,27,26,25,24,23,2,1] [4,1]
      refine qL 0x7ff00ffff80019e 274 [58,57] h9<|lA 4<|bE H fun r19 er19 H=> vA [.rd,.rd,.rd] (zFW n x0.Ls y2 y15 r19 er19)<|uA 2 0x3ffff00ffff80019e 274 ?_
      obtain ⟨h10,H⟩ | ⟨h10,H⟩ := bC H
      ·exact nA h10<|tK<|eA 2 0x7ffff00ffff80019e 274<|jB mo17 (wI (y15 + 1)) H [51,50,49,48,39,38,37,36,35,34,33,32,31,30,3,4,29,28,27,26,25,24,23,2,1] [4,1]
      refine tA h10<|gA 1 0x3ffff00ffff80019e 274<|te ?_
      obtain rfl := si H
      have H := Ho17
      dsimp only at H
      obtain rfl := si H
      have H := Ho9
      dsimp only at H
      exact fF H
     rintro y16 H
     have H : (zAh n (fun v => qb n mo9 x0 v) y2 y16) = some o9 := H
     unfold zAh at H
     exact eA 2 0x8001f00ffff80001e 18<|jB mo9 (wI (y2 + 1)) H [25,24,23,2,1] [1]
    refine tA h7<|gA 1 8581546014 18<|te ?_
    obtain rfl := si H
    have H := Ho9
    dsimp only at H
    exact fF H
   rintro _ H
   have H : (JX n x0) = some r := H
   unfold JX at H
   refine tS<|rA 2<|kF x0.Said Say.row<|uA 1 0xe00000000000000006 2 ?_
   obtain ⟨o5,eo5,Ho5⟩ := bs H
   clear H
   refine Tr.mid (ι := Unit) (fun v => ⟨92,0,[sB 2 false,sA 1 1 3 0],[(1,(fR (Net.row x0)))]⟩) (fun v => zAf n x0 = some r) ?_ ?_
   ·refine tB<|Tr.loop (ι := Nat × (Int)) (fun v => ⟨92,0,[sI 71 v.2,sI 70 (x0.Said.length : Int),sC 69 (cF 7 x0.Said Say.row),sB 2 false,sA 1 1 3 0],[(1,(fR (Net.row x0)))]⟩) (fun v => ZY n v.1 x0 v.2 = some o5) (fun v => v.1) (n,0) eo5 (St.sub_of [71,70,69,2,1] [1] kr) ?_
    rintro ⟨mo5,y3⟩ H
    have H : ZY n mo5 x0 y3 = some o5 := H
    obtain _ | mo5 := mo5
    ·exact nN H
    rw [ZY] at H
    refine gA 1 0x1e00000000000000006 2<|tS ?_
    obtain ⟨h3,H⟩ | ⟨h3,H⟩ := bC H
    ·refine nA h3<|Tr.exit<|aJ ?_
     obtain rfl := si H
     have H := Ho5
     dsimp only at H
     exact jA () H [2,1] [1]
    refine tA h3<|tK<|tS<|tB<|tR<|bE H fun v6 ev6 H=> iA Say.row ev6<|uA 3 0x7e00000000000000406 1026<|rA 4<|kF x0.Ls Link.row<|lA 1<|bE H fun r7 er7 H=> vA [.rd,.rd,.rd] (qU n v6.Link 0 (wI ((x0.Ls.length : Int) - 1)) r7 er7)<|lA 2 ?_
    obtain ⟨h4,H⟩ | ⟨h4,H⟩ := bC H
    ·refine qL 0xfffe00000000000000406 1026 [83,82] h4<|lA 2<|bE H fun r8 er8 H=> vA [.rd] (zEj n v6.V r8 er8)<|uA 2 0x1ffffe00000000000000406 1026 ?_
     obtain ⟨h5,H⟩ | ⟨h5,H⟩ := bC H
     ·exact nA h5<|tK<|eA 2 0x3ffffe00000000000000406 1026<|jB mo5 (wI (y3 + 1)) H [71,70,69,2,1] [1]
     refine tA h5<|gA 1 0x1ffffe00000000000000406 1026<|te ?_
     obtain rfl := si H
     have H := Ho5
     dsimp only at H
     exact fF H
    refine qL 0xfffe00000000000000406 1026 [83,82] h4<|uA 5 0x1ffffe00000000000000406 1026<|tB_<|gA 1 0x1ffffe00000000000000406 1026<|te ?_
    obtain rfl := si H
    have H := Ho5
    dsimp only at H
    exact fF H
   rintro _ H
   have H : (zAf n x0) = some r := H
   unfold zAf at H
   exact rA 1<|bE H fun r4 er4 H=> vA [.rd] (zLf n x0 r4 er4)<|uA 1 4 0<|te (fJ [(false,[cB r4])] H)
  exact tA h2<|gA 1 6 2<|te (fF H)
 exact qL 65542 2 [16] h1<|uA 5 2097158 2<|tB_<|gA 1 6 2<|te (fF H)
def J5 (n : Nat) (x2 : (List Link)) (y4 : (List zA)) : Option (Net) :=
  ((ZT n (⟨y4,(([] : List Link) ++ x2),([] : List Say)⟩ : Net)).bind fun r5 => (bif (!r5) then (some (⟨([] : List zA),([] : List Link),([] : List Say)⟩ : Net)) else (some (⟨y4,(([] : List Link) ++ x2),([] : List Say)⟩ : Net))))
def J6 (n : Nat) (k : (Int × (List zA) → Option (((List zA)) ⊕ (Net)))) (y2 : Int) (y3 : (List zA)) (y21 : Int) (y22 : ByteArray) (y23 : (List Pt)) (y24 : (List zB)) (y25 : (List zC)) (y26 : (List Int)) (y27 : Int) (y28 : Int) (y29 : Int) (y30 : Int) (y31 : Int) : Option (((List zA)) ⊕ (Net)) :=
  (bif (decide (y3.length + [(⟨y21,y22,y23,y24,(⟨y25,y26⟩ : zD),y27,y28,y29,y30,y31⟩ : zA)].length ≤ 268435456)) then (k ((IntKind.wrap .i64 (y2 + 1)),(y3 ++ [(⟨y21,y22,y23,y24,(⟨y25,y26⟩ : zD),y27,y28,y29,y30,y31⟩ : zA)]))) else none)
def Qw (n : Nat) : Nat → zA → Int → Int → ByteArray → (List Pt) → (List zB) → (List zC) → (List Int) → Int → Int → Int → Int → Int → Option ((Int × ByteArray × (List Pt) × (List zB) × (List zC) × (List Int) × Int × Int × Int × Int × Int) ⊕ (Net))
  | 0,_,_,_,_,_,_,_,_,_,_,_,_,_ => none
  | mo33 + 1,r8,y9,y10,y11,y12,y13,y14,y15,y16,y17,y18,y19,y20 => (bif (decide (y9 < (r8.Ps.length : Int))) then ((QE n (⟨y10,y11,y12,y13,(⟨y14,y15⟩ : zD),y16,y17,y18,y19,y20⟩ : zA) y9 true).bind fun r34 => (Qw n mo33 r8 (IntKind.wrap .i64 (y9 + 1)) r34.Id r34.Name r34.Ps r34.F r34.V.Rows r34.V.Pv r34.Tk r34.Pa r34.Wo r34.Dr r34.Ve)) else (some (Sum.inl (y10,y11,y12,y13,y14,y15,y16,y17,y18,y19,y20))))
def Zr (n : Nat) : Nat → (List Int) → Int → Int → (List zA) → Option (((List zA)) ⊕ (Net))
  | 0,_,_,_,_ => none
  | mo6 + 1,x0,x1,y2,y3 => (bif (decide (y2 < (x0.length : Int))) then ((idx x0 y2).bind fun v7 => ((Q9 n v7 x1).bind fun r8 => ((Qw n n r8 0 r8.Id r8.Name r8.Ps r8.F r8.V.Rows r8.V.Pv r8.Tk r8.Pa r8.Wo r8.Dr r8.Ve).bind fun o => match o with | .inl (y21,y22,y23,y24,y25,y26,y27,y28,y29,y30,y31) => (J6 n (fun v => Zr n mo6 x0 x1 v.1 v.2) y2 y3 y21 y22 y23 y24 y25 y26 y27 y28 y29 y30 y31) | .inr r => some (Sum.inr r)))) else (some (Sum.inl y3)))
def zBJ (n : Nat) (x0 : (List Int)) (x1 : Int) (x2 : (List Link)) : Option (Net) :=
  (bif (decide ((x0.length : Int) > 6)) then (some (⟨([] : List zA),([] : List Link),([] : List Say)⟩ : Net)) else (bif (decide (([] : List Link).length + x2.length ≤ 268435456)) then ((Zr n n x0 x1 0 ([] : List zA)).bind fun o => match o with | .inl y4 => (J5 n x2 y4) | .inr r => some r) else none))
theorem zME (n : Nat) (x0 : (List Int)) (x1 : Int) (x2 : (List Link)) (r : Net) (H : zBJ n x0 x1 x2 = some r) : zJ Tryz.prog 39 [.val false [.sl false 1 (CV.frzEs (x0.map intRow))],.val false [.lit (.int .i64 x1)],.val false [.sl false 4 (CV.frzEs (x2.map Link.row))]] [.val true (Net.row r)] [] := by
 refine cW Tryz.func39 (fun g d => sl [g 0,sl [g 1] (cn 14 (sl [g 2] .ret) .skip),g 3,sl [g 4] (.block 0 (.loop (sl [g 5,cn 22 .skip (.exit 0),.block 1 (sl [g 6,g 7,sl [g 8] (.block 2 (.loop (sl [g 9,cn 32 .skip (.exit 2),.block 3 (sl [g 10] (g 11))] (g 12))))] (g 13))] (g 14)))),sl [g 15] (cn 47 (sl [g 16] .ret) .skip),g 17] .ret) [.cell 6 53] fun cx=>?_
 unfold zBJ at H
 refine gA 1 71 64<|tS<|rA 1<|kF x0 intRow<|uA 1 16455 64 ?_
 obtain ⟨h1,H⟩ | ⟨h1,H⟩ := bC H
 ·refine nA h1<|tK<|rA 1<|gE H fun hg1 H=> LAt.appCU tOk (t := 50) (ty := 50) (e := 78) (x := (.const (.slice none 0 0))) (y := (.tmp 16)) (d := 17) (g := none) (tI 78) Link.row ([] : List Link) x2 ⟨(.slot 16),[],0,false,4,(CV.frzEs (x2.map Link.row))⟩ kr kr kr kr kr kr kr kr kr kr kr (.inr rfl) (fun _ => rfl) (fun _ => rfl) hg1<|uA 3 195 192<|tS<|rA 1<|kF x0 intRow<|uA 1 3670210 192 ?_
  obtain ⟨o6,eo6,Ho6⟩ := bs H
  clear H
  refine Tr.mid (ι := (List zA)) (fun v => ⟨50,0,[sA 7 7 3 0,sA 6 6 3 0],[(7,[cL 11 v zA.row,cL 4 (([] : List Link) ++ x2) Link.row,cL 7 ([] : List Say) Say.row]),(6,[cL 11 ([] : List zA) zA.row,cL 4 ([] : List Link) Link.row,cL 7 ([] : List Say) Say.row])]⟩) (fun v => J5 n x2 v = some r) ?_ ?_
  ·refine tB<|Tr.loop (ι := Nat × (Int × (List zA))) (fun v => ⟨50,0,[sI 21 v.2.1,sI 20 (x0.length : Int),sC 19 (cF 1 x0 intRow),sA 7 7 3 0,sA 6 6 3 0,sI 1 x1],[(7,[cL 11 v.2.2 zA.row,cL 4 (([] : List Link) ++ x2) Link.row,cL 7 ([] : List Say) Say.row]),(6,[cL 11 ([] : List zA) zA.row,cL 4 ([] : List Link) Link.row,cL 7 ([] : List Say) Say.row])]⟩) (fun v => Zr n v.1 x0 x1 v.2.1 v.2.2 = some o6) (fun v => v.1) (n,(0,([] : List zA))) eo6 (St.sub_of [21,20,19,7,6,1] [7,6] kr) ?_
   rintro ⟨mo6,y2,y3⟩ H
   have H : Zr n mo6 x0 x1 y2 y3 = some o6 := H
   obtain _ | mo6 := mo6
   ·exact nN H
   rw [Zr] at H
   refine gA 1 7864514 192<|tS ?_
   obtain ⟨h3,H⟩ | ⟨h3,H⟩ := bC H
   ·refine nA h3<|Tr.exit<|aJ ?_
    obtain rfl := si H
    have H := Ho6
    dsimp only at H
    exact jA y3 H [7,6] [7,6]
   refine tA h3<|tK<|tS<|tB<|tR<|bE H fun v7 ev7 H=> iA intRow ev7<|uA 2 3670722 192<|rA 2<|bE H fun r8 er8 H=> vA [.rd,.rd] (zJ5 n v7 x1 r8 er8)<|uA 2 3671234 1216<|tS<|rA 2<|kO r8.Ps Pt.row<|uA 1 3224896706 1216 ?_
   obtain ⟨o33,eo33,Ho33⟩ := bs H
   clear H
   refine Tr.mid (ι := Int × ByteArray × (List Pt) × (List zB) × (List zC) × (List Int) × Int × Int × Int × Int × Int) (fun v => ⟨50,0,[sA 10 10 11 0,sI 21 y2,sI 20 (x0.length : Int),sC 19 (cF 1 x0 intRow),sA 7 7 3 0,sA 6 6 3 0,sI 1 x1],[(10,[cI v.1,cS v.2.1,cL 8 v.2.2.1 Pt.row,cL 5 v.2.2.2.1 zB.row,cL 3 v.2.2.2.2.1 zC.row,cL 1 v.2.2.2.2.2.1 intRow,cI v.2.2.2.2.2.2.1,cI v.2.2.2.2.2.2.2.1,cI v.2.2.2.2.2.2.2.2.1,cI v.2.2.2.2.2.2.2.2.2.1,cI v.2.2.2.2.2.2.2.2.2.2]),(7,[cL 11 y3 zA.row,cL 4 (([] : List Link) ++ x2) Link.row,cL 7 ([] : List Say) Say.row]),(6,[cL 11 ([] : List zA) zA.row,cL 4 ([] : List Link) Link.row,cL 7 ([] : List Say) Say.row])]⟩) (fun v => J6 n (fun v => Zr n mo6 x0 x1 v.1 v.2) y2 y3 v.1 v.2.1 v.2.2.1 v.2.2.2.1 v.2.2.2.2.1 v.2.2.2.2.2.1 v.2.2.2.2.2.2.1 v.2.2.2.2.2.2.2.1 v.2.2.2.2.2.2.2.2.1 v.2.2.2.2.2.2.2.2.2.1 v.2.2.2.2.2.2.2.2.2.2 = some o6) ?_ ?_
   ·refine tB<|Tr.loop (ι := Nat × (Int × Int × ByteArray × (List Pt) × (List zB) × (List zC) × (List Int) × Int × Int × Int × Int × Int)) (fun v => ⟨50,0,[sI 31 v.2.1,sI 30 (r8.Ps.length : Int),sA 10 10 11 0,sI 21 y2,sI 20 (x0.length : Int),sC 19 (cF 1 x0 intRow),sA 7 7 3 0,sA 6 6 3 0,sI 1 x1],[(10,[cI v.2.2.1,cS v.2.2.2.1,cL 8 v.2.2.2.2.1 Pt.row,cL 5 v.2.2.2.2.2.1 zB.row,cL 3 v.2.2.2.2.2.2.1 zC.row,cL 1 v.2.2.2.2.2.2.2.1 intRow,cI v.2.2.2.2.2.2.2.2.1,cI v.2.2.2.2.2.2.2.2.2.1,cI v.2.2.2.2.2.2.2.2.2.2.1,cI v.2.2.2.2.2.2.2.2.2.2.2.1,cI v.2.2.2.2.2.2.2.2.2.2.2.2]),(7,[cL 11 y3 zA.row,cL 4 (([] : List Link) ++ x2) Link.row,cL 7 ([] : List Say) Say.row]),(6,[cL 11 ([] : List zA) zA.row,cL 4 ([] : List Link) Link.row,cL 7 ([] : List Say) Say.row])]⟩) (fun v => Qw n v.1 r8 v.2.1 v.2.2.1 v.2.2.2.1 v.2.2.2.2.1 v.2.2.2.2.2.1 v.2.2.2.2.2.2.1 v.2.2.2.2.2.2.2.1 v.2.2.2.2.2.2.2.2.1 v.2.2.2.2.2.2.2.2.2.1 v.2.2.2.2.2.2.2.2.2.2.1 v.2.2.2.2.2.2.2.2.2.2.2.1 v.2.2.2.2.2.2.2.2.2.2.2.2 = some o33) (fun v => v.1) (n,(0,r8.Id,r8.Name,r8.Ps,r8.F,r8.V.Rows,r8.V.Pv,r8.Tk,r8.Pa,r8.Wo,r8.Dr,r8.Ve)) eo33 (St.sub_of [31,30,10,21,20,19,7,6,1] [10,7,6] kr) ?_
    rintro ⟨mo33,y9,y10,y11,y12,y13,y14,y15,y16,y17,y18,y19,y20⟩ H
    have H : Qw n mo33 r8 y9 y10 y11 y12 y13 y14 y15 y16 y17 y18 y19 y20 = some o33 := H
    obtain _ | mo33 := mo33
    ·exact nN H
    rw [Qw] at H
    refine gA 1 7519864002 1216<|tS ?_
    obtain ⟨h4,H⟩ | ⟨h4,H⟩ := bC H
    ·refine nA h4<|Tr.exit<|aJ ?_
     obtain rfl := si H
     have H := Ho33
     dsimp only at H
     exact jA (y10,y11,y12,y13,y14,y15,y16,y17,y18,y19,y20) H [10,21,20,19,7,6,1] [10,7,6]
    exact tA h4<|tK<|tS<|tB<|gA 2 3224898754 1216<|Tr.at<|lA 2<|bE H fun r34 er34 H=> vB [.rd,.rd,.rd] [.box 10] (zLZ n (⟨y10,y11,y12,y13,(⟨y14,y15⟩ : zD),y16,y17,y18,y19,y20⟩ : zA) y9 true r34 er34) (.inr (zO (zA.row_mine _) zW))<|uA 1 3224896706 1216<|eA 2 3224896706 1216<|jB mo33 ((wI (y9 + 1)),r34.Id,r34.Name,r34.Ps,r34.F,r34.V.Rows,r34.V.Pv,r34.Tk,r34.Pa,r34.Wo,r34.Dr,r34.Ve) H [31,30,10,21,20,19,7,6,1] [10,7,6]
   rintro ⟨y21,y22,y23,y24,y25,y26,y27,y28,y29,y30,y31⟩ H
   have H : (J6 n (fun v => Zr n mo6 x0 x1 v.1 v.2) y2 y3 y21 y22 y23 y24 y25 y26 y27 y28 y29 y30 y31) = some o6 := H
   unfold J6 at H
   exact Tr.at<|lA 4<|gE H fun hg32 H=> LAt.appMU tOk (t := 49) (ty := 49) (e := 31) (x := (.tmp 39)) (y := (.tmp 41)) (d := 42) (g := none) (tI 31) zA.row y3 [(⟨y21,y22,y23,y24,(⟨y25,y26⟩ : zD),y27,y28,y29,y30,y31⟩ : zA)] kr kr kr kr kr kr kr kr kr kr hg32<|uA 2 3670210 192<|eA 2 3670210 192<|jB mo6 ((wI (y2 + 1)),(y3 ++ [(⟨y21,y22,y23,y24,(⟨y25,y26⟩ : zD),y27,y28,y29,y30,y31⟩ : zA)])) H [21,20,19,7,6,1] [7,6]
  rintro y4 H
  have H : (J5 n x2 y4) = some r := H
  unfold J5 at H
  refine tS<|rA 1<|bE H fun r5 er5 H=> vB [.rd] [.box 7] (zEh n (⟨y4,(([] : List Link) ++ x2),([] : List Say)⟩ : Net) r5 er5) (.inr (zO (zE zM zS) zW))<|uA 1 0x8000000000c0 192 ?_
  obtain ⟨h2,H⟩ | ⟨h2,H⟩ := bC H
  ·exact nA h2<|tK<|gA 2 64 64<|te (fJ [(true,[cL 11 y4 zA.row,cL 4 (([] : List Link) ++ x2) Link.row,cL 7 ([] : List Say) Say.row])] H)
  exact tA h2<|gA 2 64 64<|te (fJ [(true,[cL 11 ([] : List zA) zA.row,cL 4 ([] : List Link) Link.row,cL 7 ([] : List Say) Say.row])] H)
 exact tA h1<|gA 2 64 64<|te (fJ [(true,[cL 11 ([] : List zA) zA.row,cL 4 ([] : List Link) Link.row,cL 7 ([] : List Say) Say.row])] H)
def zAK (n : Nat) (x0 : (List Int)) (x1 : Int) : Option (Int) :=
  (bif (decide ((12 : Int) ≠ 0)) then (bif (decide ((IntKind.wrap .i64 (3 + (IntKind.wrap .i64 (Int.tdiv (x0.length : Int) 12)))) > x1)) then (some x1) else (some (IntKind.wrap .i64 (3 + (IntKind.wrap .i64 (Int.tdiv (x0.length : Int) 12)))))) else none)
theorem zIS (n : Nat) (x0 : (List Int)) (x1 : Int) (r : Int) (H : zAK n x0 x1 = some r) : zJ Tryz.prog 109 [.val false [.sl false 1 (CV.frzEs (x0.map zd))],.val false [.lit (.int .i64 x1)]] [.val false [.lit (.int .i64 r)]] [] := by
 refine cW Tryz.func109 (fun g d => sl [g 0,g 1,sl [g 2] (cn 12 (sl [g 3] .ret) .skip),g 4] .ret) [.tmp 4] fun cx=>?_
 unfold zAK at H
 refine gA 1 3 0<|rA 1<|kF x0 zd<|gE H fun hg1 H=> LAt.binC tOk (op := .quo) (t := 3) (ty := 3) (ty' := 3) (x := (.tmp 7)) (y := (.const (.int .i64 12))) (d := 8) (g := none) (.int .i64 (x0.length : Int)) (.int .i64 12) (.int .i64 (wI (Int.tdiv (x0.length : Int) 12))) _ kr kr kr kr kr (φ := (IntKind.i64 = IntKind.i64 ∧ (12 : Int) ≠ 0)) kr (⟨rfl,of_decide_eq_true hg1⟩) rfl<|uA 2 34 0<|tS<|gA 3 4130 0 ?_
 obtain ⟨h1,H⟩ | ⟨h1,H⟩ := bC H
 ·exact nA h1<|tK<|gA 2 16 0<|te (fJ [(false,[cI (wI (3 + (wI (Int.tdiv (x0.length : Int) 12))))])] H)
 exact tA h1<|gA 2 16 0<|te (fJ [(false,[cI x1])] H)
def zT (n : Nat) (x0 : Int) (x1 : Int) (x2 : Int) : Option (Bool) :=
  (bif (decide (x0 ≥ x1)) then (some (decide (x0 ≤ x2))) else (some false))
theorem zU (n : Nat) (x0 : Int) (x1 : Int) (x2 : Int) (r : Bool) (H : zT n x0 x1 x2 = some r) : zJ Tryz.prog 102 [.val false [.lit (.int .i64 x0)],.val false [.lit (.int .i64 x1)],.val false [.lit (.int .i64 x2)]] [.val false [.lit (.bool r)]] [] := by
 refine cW Tryz.func102 (fun g d => sl [g 0,g 1] .ret) [.tmp 6] fun cx=>?_
 unfold zT at H
 refine gA 1 7 0<|rA 4 ?_
 obtain ⟨h1,H⟩ | ⟨h1,H⟩ := bC H
 ·exact qL 1029 0 [10] h1<|uA 5 64 0<|te (fF H)
 exact qL 1029 0 [10] h1<|uA 5 64 0<|te (fJ [(false,[cB (decide (x0 ≤ x2))])] H)
def Jo (n : Nat) (x0 : Int) (y5 : (List Int)) : Option (zD) :=
  (some (⟨[(⟨1,(IntKind.wrap .i64 ((IntKind.wrap .i64 (1 * 2 ^ min (((IntKind.wrap .u64 x0) : Int)).toNat (IntKind.bits .i64))) - 1)),(IntKind.wrap .i64 ((IntKind.wrap .i64 (1 * 2 ^ min (((IntKind.wrap .u64 x0) : Int)).toNat (IntKind.bits .i64))) - 1))⟩ : zC)],y5⟩ : zD))
def QT (n : Nat) : Nat → Int → Int → (List Int) → Option (((List Int)) ⊕ (zD))
  | 0,_,_,_ => none
  | mo6 + 1,x0,y3,y4 => (bif (decide (y3 < x0)) then (bif (decide (y4.length + [1].length ≤ 268435456)) then (QT n mo6 x0 (IntKind.wrap .i64 (y3 + 1)) (y4 ++ [1])) else none) else (some (Sum.inl y4)))
def Qf (n : Nat) (x0 : Int) : Option (zD) :=
  ((zT n x0 1 6).bind fun r1 => (bif (!r1) then (some (⟨([] : List zC),([] : List Int)⟩ : zD)) else (bif (decide ((0 : Int) ≤ (IntKind.wrap .u64 x0))) then ((QT n n x0 0 ([] : List Int)).bind fun o => match o with | .inl y5 => (Jo n x0 y5) | .inr r => some r) else none)))
theorem zHc (n : Nat) (x0 : Int) (r : zD) (H : Qf n x0 = some r) : zJ Tryz.prog 107 [.val false [.lit (.int .i64 x0)]] [.val true (zD.row r)] [] := by
 refine cW Tryz.func107 (fun g d => sl [g 0,sl [g 1] (cn 8 (sl [g 2] .ret) .skip),g 3,g 4,sl [g 5] (.block 0 (.loop (sl [sl [g 6] (cn 21 .skip (.exit 0)),.block 1 (g 8)] (g 7)))),g 9] .ret) [.cell 2 29] fun cx=>?_
 unfold Qf at H
 refine gA 1 5 4<|tS<|rA 1<|bE H fun r1 er1 H=> vA [.rd,.rd,.rd] (zU n x0 1 6 r1 er1)<|uA 1 261 4 ?_
 obtain ⟨h1,H⟩ | ⟨h1,H⟩ := bC H
 ·refine nA h1<|tK<|rA 2<|gE H fun hg2 H=> LAt.binC tOk (op := .shl) (t := 3) (ty := 163) (ty' := 3) (x := (.const (.int .i64 1))) (y := (.tmp 11)) (d := 12) (g := none) (.int .i64 1) (.int .u64 (IntKind.wrap .u64 x0)) (.int .i64 (wI (1 * 2 ^ min (((IntKind.wrap .u64 x0) : Int)).toNat (IntKind.bits .i64)))) _ kr kr kr kr kr (φ := (0 : Int) ≤ (IntKind.wrap .u64 x0)) kr (of_decide_eq_true hg2) rfl<|uA 2 13 4<|gA 7 21 20<|tS<|gA 1 53 20 ?_
  obtain ⟨o6,eo6,Ho6⟩ := bs H
  clear H
  refine Tr.mid (ι := (List Int)) (fun v => ⟨30,0,[sA 4 4 2 0,sA 2 2 2 0],[(4,[cL 3 [(⟨1,(wI ((wI (1 * 2 ^ min (((IntKind.wrap .u64 x0) : Int)).toNat (IntKind.bits .i64))) - 1)),(wI ((wI (1 * 2 ^ min (((IntKind.wrap .u64 x0) : Int)).toNat (IntKind.bits .i64))) - 1))⟩ : zC)] zC.row,cL 1 v intRow]),(2,[cL 3 ([] : List zC) zC.row,cL 1 ([] : List Int) intRow])]⟩) (fun v => Jo n x0 v = some r) ?_ ?_
  ·refine tB<|Tr.loop (ι := Nat × (Int × (List Int))) (fun v => ⟨30,0,[sI 5 v.2.1,sA 4 4 2 0,sA 2 2 2 0,sI 0 x0],[(4,[cL 3 [(⟨1,(wI ((wI (1 * 2 ^ min (((IntKind.wrap .u64 x0) : Int)).toNat (IntKind.bits .i64))) - 1)),(wI ((wI (1 * 2 ^ min (((IntKind.wrap .u64 x0) : Int)).toNat (IntKind.bits .i64))) - 1))⟩ : zC)] zC.row,cL 1 v.2.2 intRow]),(2,[cL 3 ([] : List zC) zC.row,cL 1 ([] : List Int) intRow])]⟩) (fun v => QT n v.1 x0 v.2.1 v.2.2 = some o6) (fun v => v.1) (n,(0,([] : List Int))) eo6 (St.sub_of [5,4,2,0] [4,2] kr) ?_
   rintro ⟨mo6,y3,y4⟩ H
   have H : QT n mo6 x0 y3 y4 = some o6 := H
   obtain _ | mo6 := mo6
   ·exact nN H
   rw [QT] at H
   refine tS<|gA 3 2097205 20 ?_
   obtain ⟨h2,H⟩ | ⟨h2,H⟩ := bC H
   ·refine nA h2<|Tr.exit<|aJ ?_
    obtain rfl := si H
    have H := Ho6
    dsimp only at H
    exact jA y4 H [4,2] [4,2]
   exact tA h2<|tK<|tS<|tB<|Tr.at<|lA 3<|gE H fun hg7 H=> LAt.appMU tOk (t := 27) (ty := 27) (e := 3) (x := (.tmp 25)) (y := (.tmp 26)) (d := 27) (g := none) (tI 3) intRow y4 [1] kr kr kr kr kr kr kr kr kr kr hg7<|uA 2 53 20<|eA 3 53 20<|jB mo6 ((wI (y3 + 1)),(y4 ++ [1])) H [5,4,2,0] [4,2]
  rintro y5 H
  have H : (Jo n x0 y5) = some r := H
  unfold Jo at H
  exact gA 2 4 4<|te (fJ [(true,[cL 3 [(⟨1,(wI ((wI (1 * 2 ^ min (((IntKind.wrap .u64 x0) : Int)).toNat (IntKind.bits .i64))) - 1)),(wI ((wI (1 * 2 ^ min (((IntKind.wrap .u64 x0) : Int)).toNat (IntKind.bits .i64))) - 1))⟩ : zC)] zC.row,cL 1 y5 intRow])] H)
 exact tA h1<|gA 2 4 4<|te (fJ [(true,[cL 3 ([] : List zC) zC.row,cL 1 ([] : List Int) intRow])] H)
def Jy (n : Nat) (r3 : zD) (x0 : Int) (y6 : (List Pt)) : Option (zA) :=
  (some (⟨x0,(⟨#[]⟩ : ByteArray),y6,([] : List zB),r3,0,0,0,0,0⟩ : zA))
def QQ (n : Nat) : Nat → Int → Int → (List Pt) → Option (((List Pt)) ⊕ (zA))
  | 0,_,_,_ => none
  | mo7 + 1,x1,y4,y5 => (bif (decide (y4 < x1)) then (bif (decide (y5.length + [(⟨false,1,false,(⟨0,0,0,0,0⟩ : Vec)⟩ : Pt)].length ≤ 268435456)) then (QQ n mo7 x1 (IntKind.wrap .i64 (y4 + 1)) (y5 ++ [(⟨false,1,false,(⟨0,0,0,0,0⟩ : Vec)⟩ : Pt)])) else none) else (some (Sum.inl y5)))
def qN (n : Nat) (x0 : Int) (x1 : Int) : Option (zA) :=
  ((zT n x0 1 99).bind fun r1 => (bif (!r1) then (some (⟨0,(⟨#[]⟩ : ByteArray),([] : List Pt),([] : List zB),(⟨([] : List zC),([] : List Int)⟩ : zD),0,0,0,0,0⟩ : zA)) else ((zT n x1 1 6).bind fun r2 => (bif (!r2) then (some (⟨0,(⟨#[]⟩ : ByteArray),([] : List Pt),([] : List zB),(⟨([] : List zC),([] : List Int)⟩ : zD),0,0,0,0,0⟩ : zA)) else ((Qf n x1).bind fun r3 => ((QQ n n x1 0 ([] : List Pt)).bind fun o => match o with | .inl y6 => (Jy n r3 x0 y6) | .inr r => some r))))))
theorem zGE (n : Nat) (x0 : Int) (x1 : Int) (r : zA) (H : qN n x0 x1 = some r) : zJ Tryz.prog 26 [.val false [.lit (.int .i64 x0)],.val false [.lit (.int .i64 x1)]] [.val true (zA.row r)] [] := by
 refine cW Tryz.func26 (fun g d => sl [g 0,sl [g 1] (cn 14 (sl [g 2] .ret) .skip),g 3,sl [g 4] (.block 0 (.loop (sl [sl [g 5] (cn 22 .skip (.exit 0)),.block 1 (g 7)] (g 6)))),g 8] .ret) [.cell 4 31] fun cx=>?_
 unfold qN at H
 refine gA 1 19 16<|tS<|rA 1<|bE H fun r1 er1 H=> vA [.rd,.rd,.rd] (zU n x0 1 99 r1 er1)<|lA 2 ?_
 obtain ⟨h1,H⟩ | ⟨h1,H⟩ := bC H
 ·refine qL 1043 16 [10] h1<|lA 1<|bE H fun r2 er2 H=> vA [.rd,.rd,.rd] (zU n x1 1 6 r2 er2)<|uA 2 16403 16 ?_
  obtain ⟨h2,H⟩ | ⟨h2,H⟩ := bC H
  ·refine nA h2<|tK<|rA 2<|bE H fun r3 er3 H=> vA [.rd] (zHc n x1 r3 er3)<|uA 3 50 48<|tS<|gA 1 114 48 ?_
   obtain ⟨o7,eo7,Ho7⟩ := bs H
   clear H
   refine Tr.mid (ι := (List Pt)) (fun v => ⟨32,0,[sA 5 5 11 0,sA 4 4 11 0],[(5,[cI x0,cS (⟨#[]⟩ : ByteArray),cL 8 v Pt.row,cL 5 ([] : List zB) zB.row,cL 3 r3.Rows zC.row,cL 1 r3.Pv intRow,cI 0,cI 0,cI 0,cI 0,cI 0]),(4,[cI 0,cS (⟨#[]⟩ : ByteArray),cL 8 ([] : List Pt) Pt.row,cL 5 ([] : List zB) zB.row,cL 3 ([] : List zC) zC.row,cL 1 ([] : List Int) intRow,cI 0,cI 0,cI 0,cI 0,cI 0])]⟩) (fun v => Jy n r3 x0 v = some r) ?_ ?_
   ·refine tB<|Tr.loop (ι := Nat × (Int × (List Pt))) (fun v => ⟨32,0,[sI 6 v.2.1,sA 5 5 11 0,sA 4 4 11 0,sI 1 x1],[(5,[cI x0,cS (⟨#[]⟩ : ByteArray),cL 8 v.2.2 Pt.row,cL 5 ([] : List zB) zB.row,cL 3 r3.Rows zC.row,cL 1 r3.Pv intRow,cI 0,cI 0,cI 0,cI 0,cI 0]),(4,[cI 0,cS (⟨#[]⟩ : ByteArray),cL 8 ([] : List Pt) Pt.row,cL 5 ([] : List zB) zB.row,cL 3 ([] : List zC) zC.row,cL 1 ([] : List Int) intRow,cI 0,cI 0,cI 0,cI 0,cI 0])]⟩) (fun v => QQ n v.1 x1 v.2.1 v.2.2 = some o7) (fun v => v.1) (n,(0,([] : List Pt))) eo7 (St.sub_of [6,5,4,1] [5,4] kr) ?_
    rintro ⟨mo7,y4,y5⟩ H
    have H : QQ n mo7 x1 y4 y5 = some o7 := H
    obtain _ | mo7 := mo7
    ·exact nN H
    rw [QQ] at H
    refine tS<|gA 3 4194418 48 ?_
    obtain ⟨h3,H⟩ | ⟨h3,H⟩ := bC H
    ·refine nA h3<|Tr.exit<|aJ ?_
     obtain rfl := si H
     have H := Ho7
     dsimp only at H
     exact jA y5 H [5,4] [5,4]
    exact tA h3<|tK<|tS<|tB<|Tr.at<|lA 4<|gE H fun hg8 H=> LAt.appMU tOk (t := 24) (ty := 24) (e := 100) (x := (.tmp 26)) (y := (.tmp 28)) (d := 29) (g := none) (tI 100) Pt.row y5 [(⟨false,1,false,(⟨0,0,0,0,0⟩ : Vec)⟩ : Pt)] kr kr kr kr kr kr kr kr kr kr hg8<|uA 2 114 48<|eA 3 114 48<|jB mo7 ((wI (y4 + 1)),(y5 ++ [(⟨false,1,false,(⟨0,0,0,0,0⟩ : Vec)⟩ : Pt)])) H [6,5,4,1] [5,4]
   rintro y6 H
   have H : (Jy n r3 x0 y6) = some r := H
   unfold Jy at H
   exact gA 2 16 16<|te (fJ [(true,[cI x0,cS (⟨#[]⟩ : ByteArray),cL 8 y6 Pt.row,cL 5 ([] : List zB) zB.row,cL 3 r3.Rows zC.row,cL 1 r3.Pv intRow,cI 0,cI 0,cI 0,cI 0,cI 0])] H)
  exact tA h2<|gA 2 16 16<|te (fJ [(true,[cI 0,cS (⟨#[]⟩ : ByteArray),cL 8 ([] : List Pt) Pt.row,cL 5 ([] : List zB) zB.row,cL 3 ([] : List zC) zC.row,cL 1 ([] : List Int) intRow,cI 0,cI 0,cI 0,cI 0,cI 0])] H)
 exact qL 1043 16 [10] h1<|uA 4 16403 16<|tB_<|gA 2 16 16<|te (fJ [(true,[cI 0,cS (⟨#[]⟩ : ByteArray),cL 8 ([] : List Pt) Pt.row,cL 5 ([] : List zB) zB.row,cL 3 ([] : List zC) zC.row,cL 1 ([] : List Int) intRow,cI 0,cI 0,cI 0,cI 0,cI 0])] H)
def zp (n : Nat) (x0 : Vec) : Option (Bool) :=
  ((zT n x0.Root 1 99).bind fun r1 => (bif r1 then ((zT n x0.Co 0 100000).bind fun r2 => (bif r2 then ((zT n x0.Hops 0 10).bind fun r3 => (bif r3 then ((zT n x0.Bridge 1 99).bind fun r4 => (bif r4 then ((zT n x0.Port 0 7).bind fun r5 => (some r5)) else (some false))) else (some false))) else (some false))) else (some false)))
theorem zC1 (n : Nat) (x0 : Vec) (r : Bool) (H : zp n x0 = some r) : zJ Tryz.prog 91 [.val true (fR (Vec.row x0))] [.val false [.lit (.bool r)]] [] := by
 refine cW Tryz.func91 (fun g d => sl [g 0,g 1] .ret) [.tmp 2] fun cx=>?_
 unfold zp at H
 refine gA 2 2 2<|rA 2<|bE H fun r1 er1 H=> vA [.rd,.rd,.rd] (zU n x0.Root 1 99 r1 er1)<|lA 1 ?_
 obtain ⟨h1,H⟩ | ⟨h1,H⟩ := bC H
 ·exact qL 66 2 [6] h1<|uA 20 4 0<|te (fF H)
 refine qL 66 2 [6] h1<|lA 2<|bE H fun r2 er2 H=> vA [.rd,.rd,.rd] (zU n x0.Co 0 100000 r2 er2)<|lA 2 ?_
 obtain ⟨h2,H⟩ | ⟨h2,H⟩ := bC H
 ·exact qL 2050 2 [11] h2<|uA 15 4 0<|te (fF H)
 refine qL 2050 2 [11] h2<|lA 2<|bE H fun r3 er3 H=> vA [.rd,.rd,.rd] (zU n x0.Hops 0 10 r3 er3)<|lA 2 ?_
 obtain ⟨h3,H⟩ | ⟨h3,H⟩ := bC H
 ·exact qL 65538 2 [16] h3<|uA 10 4 0<|te (fF H)
 refine qL 65538 2 [16] h3<|lA 2<|bE H fun r4 er4 H=> vA [.rd,.rd,.rd] (zU n x0.Bridge 1 99 r4 er4)<|lA 2 ?_
 obtain ⟨h4,H⟩ | ⟨h4,H⟩ := bC H
 ·exact qL 2097154 2 [21] h4<|uA 5 4 0<|te (fF H)
 exact qL 2097154 2 [21] h4<|lA 2<|bE H fun r5 er5 H=> vA [.rd,.rd,.rd] (zU n x0.Port 0 7 r5 er5)<|uA 2 4 0<|te (fJ [(false,[cB r5])] H)
def qD (n : Nat) (x0 : Pt) : Option (Bool) :=
  ((zT n x0.Co 1 1000).bind fun r1 => (bif (!r1) then (some false) else (bif (!x0.Up) then (bif x0.Has then (some false) else (some ((x0.Hd.Root == 0) && ((x0.Hd.Co == 0) && ((x0.Hd.Hops == 0) && ((x0.Hd.Bridge == 0) && ((x0.Hd.Port == 0) && true))))))) else (bif (!x0.Has) then (some ((x0.Hd.Root == 0) && ((x0.Hd.Co == 0) && ((x0.Hd.Hops == 0) && ((x0.Hd.Bridge == 0) && ((x0.Hd.Port == 0) && true)))))) else ((zp n x0.Hd).bind fun r2 => (some r2))))))
theorem zNx (n : Nat) (x0 : Pt) (r : Bool) (H : qD n x0 = some r) : zJ Tryz.prog 101 [.val true (fR (Pt.row x0))] [.val false [.lit (.bool r)]] [] := by
 refine cW Tryz.func101 (fun g d => sl [g 0,sl [g 1] (cn 15 (sl [g 2] .ret) .skip),sl [g 3] (cn 18 (sl [g 4] .ret) .skip),g 5] .ret) [.tmp 2] fun cx=>?_
 unfold qD at H
 refine gA 2 2 2<|tS<|rA 2<|bE H fun r1 er1 H=> vA [.rd,.rd,.rd] (zU n x0.Co 1 1000 r1 er1)<|lA 2 ?_
 obtain ⟨h1,H⟩ | ⟨h1,H⟩ := bC H
 ·refine qL 130 2 [7] h1<|lA 4 ?_
  obtain ⟨h2,H⟩ | ⟨h2,H⟩ := bC H
  ·refine qL 2178 2 [11] h2<|uA 4 32770 2<|nB_<|tK<|tS<|gA 3 262146 2 ?_
   obtain ⟨h3,H⟩ | ⟨h3,H⟩ := bC H
   ·exact nA h3<|tK<|rA 2<|bE H fun r2 er2 H=> vA [.rd] (zC1 n x0.Hd r2 er2)<|uA 1 4 0<|te (fJ [(false,[cB r2])] H)
   exact tA h3<|rA 3<|LAt.eqSG false (t := 33) (ty := 33) (ty' := 4) (x := (.tmp 20)) (y := (.tmp 21)) (d := 22) (g := none) ((x0.Hd.Root == 0) && ((x0.Hd.Co == 0) && ((x0.Hd.Hops == 0) && ((x0.Hd.Bridge == 0) && ((x0.Hd.Port == 0) && true))))) _ kr kr kr kr rfl<|uA 1 4 0<|te (fJ [(false,[cB ((x0.Hd.Root == 0) && ((x0.Hd.Co == 0) && ((x0.Hd.Hops == 0) && ((x0.Hd.Bridge == 0) && ((x0.Hd.Port == 0) && true)))))])] H)
  refine qL 2178 2 [11] h2<|uA 4 32770 2 ?_
  obtain ⟨h4,H⟩ | ⟨h4,H⟩ := bC H
  ·exact qT [15] h4<|nB_<|tK<|tS<|gA 3 262146 2<|qT [18] (congrArg not h4)<|tB_<|rA 3<|LAt.eqSG false (t := 33) (ty := 33) (ty' := 4) (x := (.tmp 20)) (y := (.tmp 21)) (d := 22) (g := none) ((x0.Hd.Root == 0) && ((x0.Hd.Co == 0) && ((x0.Hd.Hops == 0) && ((x0.Hd.Bridge == 0) && ((x0.Hd.Port == 0) && true))))) _ kr kr kr kr rfl<|uA 1 4 0<|te (fJ [(false,[cB ((x0.Hd.Root == 0) && ((x0.Hd.Co == 0) && ((x0.Hd.Hops == 0) && ((x0.Hd.Bridge == 0) && ((x0.Hd.Port == 0) && true)))))])] H)
  exact qT [15] h4<|tB_<|gA 1 4 0<|te (fF H)
 exact qL 130 2 [7] h1<|uA 8 32770 2<|tB_<|gA 1 4 0<|te (fF H)
def ZW (n : Nat) (x0 : zB) : Option (Bool) :=
  ((zT n x0.Tag 1 99).bind fun r1 => (bif r1 then ((zT n x0.Mac 1 9999).bind fun r2 => (bif r2 then ((zT n x0.Port 0 7).bind fun r3 => (bif r3 then ((zT n x0.Age 0 4).bind fun r4 => (bif r4 then (bif (!x0.Sc) then (some true) else (some (x0.Age == 0))) else (some false))) else (some false))) else (some false))) else (some false)))
theorem zC6 (n : Nat) (x0 : zB) (r : Bool) (H : ZW n x0 = some r) : zJ Tryz.prog 170 [.val true (fR (zB.row x0))] [.val false [.lit (.bool r)]] [] := by
 refine cW Tryz.func170 (fun g d => sl [g 0,g 1] .ret) [.tmp 2] fun cx=>?_
 unfold ZW at H
 refine gA 2 2 2<|rA 2<|bE H fun r1 er1 H=> vA [.rd,.rd,.rd] (zU n x0.Tag 1 99 r1 er1)<|lA 1 ?_
 obtain ⟨h1,H⟩ | ⟨h1,H⟩ := bC H
 ·exact qL 66 2 [6] h1<|uA 25 4 0<|te (fF H)
 refine qL 66 2 [6] h1<|lA 2<|bE H fun r2 er2 H=> vA [.rd,.rd,.rd] (zU n x0.Mac 1 9999 r2 er2)<|lA 2 ?_
 obtain ⟨h2,H⟩ | ⟨h2,H⟩ := bC H
 ·exact qL 2050 2 [11] h2<|uA 20 4 0<|te (fF H)
 refine qL 2050 2 [11] h2<|lA 2<|bE H fun r3 er3 H=> vA [.rd,.rd,.rd] (zU n x0.Port 0 7 r3 er3)<|lA 2 ?_
 obtain ⟨h3,H⟩ | ⟨h3,H⟩ := bC H
 ·exact qL 65538 2 [16] h3<|uA 15 4 0<|te (fF H)
 refine qL 65538 2 [16] h3<|lA 2<|bE H fun r4 er4 H=> vA [.rd,.rd,.rd] (zU n x0.Age 0 4 r4 er4)<|lA 2 ?_
 obtain ⟨h4,H⟩ | ⟨h4,H⟩ := bC H
 ·exact qL 2097154 2 [21] h4<|uA 10 4 0<|te (fF H)
 refine qL 2097154 2 [21] h4<|lA 4 ?_
 obtain ⟨h5,H⟩ | ⟨h5,H⟩ := bC H
 ·exact qL 35651586 2 [25] h5<|uA 6 4 0<|te (fJ [(false,[cB (x0.Age == 0)])] H)
 exact qL 35651586 2 [25] h5<|uA 6 4 0<|te (fT H)
def Zp (n : Nat) (x0 : zB) (x1 : Int) (x2 : Int) : Option (Bool) :=
  (bif (x0.Tag != x1) then (some (decide (x0.Tag < x1))) else (some (decide (x0.Mac < x2))))
theorem zHe (n : Nat) (x0 : zB) (x1 : Int) (x2 : Int) (r : Bool) (H : Zp n x0 x1 x2 = some r) : zJ Tryz.prog 171 [.val true (fR (zB.row x0)),.val false [.lit (.int .i64 x1)],.val false [.lit (.int .i64 x2)]] [.val false [.lit (.bool r)]] [] := by
 refine cW Tryz.func171 (fun g d => sl [g 0,sl [g 1] (cn 10 (sl [g 2] .ret) .skip),g 3] .ret) [.tmp 6] fun cx=>?_
 unfold Zp at H
 refine gA 2 14 8<|tS<|gA 4 1038 8 ?_
 obtain ⟨h1,H⟩ | ⟨h1,H⟩ := bC H
 ·exact nA h1<|tK<|gA 5 64 0<|te (fJ [(false,[cB (decide (x0.Mac < x2))])] H)
 exact tA h1<|gA 5 64 0<|te (fJ [(false,[cB (decide (x0.Tag < x1))])] H)
def zAl (n : Nat) (x0 : (List zB)) : Option (Bool) :=
  (some (decide ((x0.length : Int) ≤ 12)))
def qd (n : Nat) : Nat → (List zB) → Int → Option ((Unit) ⊕ (Bool))
  | 0,_,_ => none
  | mo2 + 1,x0,y1 => (bif (decide (y1 < (x0.length : Int))) then ((idx x0 y1).bind fun v3 => ((ZW n v3).bind fun r4 => (bif (!r4) then (some (Sum.inr false)) else (bif (decide (y1 > 0)) then ((idx x0 (IntKind.wrap .i64 (y1 - 1))).bind fun v5 => ((idx x0 y1).bind fun v6 => ((idx x0 y1).bind fun v7 => ((Zp n v5 v6.Tag v7.Mac).bind fun r8 => (bif (!r8) then (some (Sum.inr false)) else (qd n mo2 x0 (IntKind.wrap .i64 (y1 + 1)))))))) else (qd n mo2 x0 (IntKind.wrap .i64 (y1 + 1))))))) else (some (Sum.inl ())))
def ZU (n : Nat) (x0 : (List zB)) : Option (Bool) :=
  ((qd n n x0 0).bind fun o => match o with | .inl _ => (zAl n x0) | .inr r => some r)
def zPH : Tab := ⟨29,[0,0,3,4,8,16,48,64,192,320,512,512,2560,5632,8704,512,512,98816,131584,262656,512,512,3146240,4194816,8389120,17318400,33554944,67109440,134217792],[0,0,3,4,8,16,32,64,192,320,512,512,2560,5632,8704,512,512,98816,131584,262656,512,512,3146240,4194816,8389120,17318400,33554944,67109440,134217792],[0,0,3,7,15,31,63,127,255,511,1023,1023,3071,8191,16383,1023,1023,99327,230399,492543,1023,1023,3146751,7341055,15729663,33554431,67108863,134217727,268435455]⟩
theorem ZD : zg (rg Tryz.f103 4) zPH = true := kr
theorem zGn (n : Nat) (x0 : (List zB)) (r : Bool) (H : ZU n x0 = some r) : zJ Tryz.prog 103 [.val false [.sl false 5 (CV.frzEs (x0.map zB.row))]] [.val false [.lit (.bool r)]] [] := by
 refine cW Tryz.func103 (fun g d => sl [g 0,sl [g 1] (.block 0 (.loop (sl [sl [g 2] (cn 7 .skip (.exit 0)),.block 1 (sl [d 4] (cn 38 (sl [g 5] .ret) .skip))] (g 3)))),g 6] .ret) [.tmp 2] fun cx=>?_
 unfold ZU at H
 refine gA 1 1 0<|tS<|gA 1 9 0 ?_
 obtain ⟨o2,eo2,Ho2⟩ := bs H
 clear H
 refine Tr.mid (ι := Unit) (fun v => ⟨42,0,[sC 0 (cF 5 x0 zB.row)],[]⟩) (fun v => zAl n x0 = some r) ?_ ?_
 ·refine tB<|Tr.loop (ι := Nat × (Int)) (fun v => ⟨42,0,[sI 3 v.2,sC 0 (cF 5 x0 zB.row)],[]⟩) (fun v => qd n v.1 x0 v.2 = some o2) (fun v => v.1) (n,0) eo2 (St.sub_of [3,0] [] kr) ?_
  rintro ⟨mo2,y1⟩ H
  have H : qd n mo2 x0 y1 = some o2 := H
  obtain _ | mo2 := mo2
  ·exact nN H
  rw [qd] at H
  refine tS<|rA 2<|kF x0 zB.row<|uA 1 137 0 ?_
  obtain ⟨h1,H⟩ | ⟨h1,H⟩ := bC H
  ·refine nA h1<|Tr.exit<|aJ ?_
   obtain rfl := si H
   have H := Ho2
   dsimp only at H
   exact jA () H [0] []
  refine tA h1<|tK<|tS<|tB<|bE H fun v3 ev3 H=> bE H fun r4 er4 H=> sT ⟨42,0,[sB 7 (decide (y1 < (x0.length : Int))),sI 3 y1,sC 0 (cF 5 x0 zB.row)],[]⟩ ?_
  cases h2 : (!r4)
  ·have H := q3 h2 H
   refine sT ⟨42,0,[sB 7 (decide (y1 < (x0.length : Int))),sI 3 y1,sC 0 (cF 5 x0 zB.row)],[]⟩ ?_
   cases h3 : (decide (y1 > 0))
   ·have H := q3 h3 H
    refine Tr.draws mixed 29 kr ⟨42,0,[sB 38 false,sI 3 y1,sC 0 (cF 5 x0 zB.row)],[]⟩ (fun cx=>?_) ?_
    ·exact mA ZD [(0,[]),(1,[])] 27 [] fun cx=>iN ZD 2 zB.row ev3 fun cx=>mA ZD [(3,[])] 25 [] fun cx=>mC ZD 4<|vA [.rd] (zC6 n v3 r4 er4)<|fA<|mA ZD [(5,[]),(6,[])] 22 [] fun cx=>qA 65545 0 [16] h2<|mA ZD [(7,[]),(8,[]),(9,[])] 19 [] fun cx=>qA 589833 0 [19] h3<|mA ZD [(10,[]),(11,[]),(12,[]),(13,[]),(14,[]),(15,[]),(16,[]),(17,[]),(18,[]),(19,[]),(20,[]),(21,[]),(22,[]),(23,[]),(24,[]),(25,[]),(26,[]),(27,[]),(28,[])] 0 [] fun cx=>mE ZD [38,3,0] []
    exact nB_<|tK<|eA 3 9 0<|jB mo2 (wI (y1 + 1)) H [3,0] []
   have H := q7 h3 H
   refine bE H fun v5 ev5 H=> bE H fun v6 ev6 H=> bE H fun v7 ev7 H=> bE H fun r8 er8 H=> Tr.draws mixed 29 kr ⟨42,0,[sB 38 (!r8),sI 3 y1,sC 0 (cF 5 x0 zB.row)],[]⟩ (fun cx=>?_) ?_
   ·exact mA ZD [(0,[]),(1,[])] 27 [] fun cx=>iN ZD 2 zB.row ev3 fun cx=>mA ZD [(3,[])] 25 [] fun cx=>mC ZD 4<|vA [.rd] (zC6 n v3 r4 er4)<|fA<|mA ZD [(5,[]),(6,[])] 22 [] fun cx=>qA 65545 0 [16] h2<|mA ZD [(7,[]),(8,[]),(9,[])] 19 [] fun cx=>qA 589833 0 [19] h3<|mA ZD [(10,[]),(11,[]),(12,[])] 16 [] fun cx=>iN ZD 13 zB.row ev5 fun cx=>mA ZD [(14,[]),(15,[]),(16,[])] 12 [] fun cx=>iN ZD 17 zB.row ev6 fun cx=>mA ZD [(18,[]),(19,[]),(20,[]),(21,[])] 7 [] fun cx=>iN ZD 22 zB.row ev7 fun cx=>mA ZD [(23,[]),(24,[])] 4 [] fun cx=>mC ZD 25<|vA [.rd,.rd,.rd] (zHe n v5 v6.Tag v7.Mac r8 er8)<|fA<|mA ZD [(26,[]),(27,[]),(28,[])] 0 [] fun cx=>mE ZD [38,3,0] []
   obtain ⟨h4,H⟩ | ⟨h4,H⟩ := bC H
   ·exact qT [38] h4<|nB_<|tK<|eA 3 9 0<|jB mo2 (wI (y1 + 1)) H [3,0] []
   refine qT [38] h4<|tB_<|gA 1 4 0<|te ?_
   obtain rfl := si H
   have H := Ho2
   dsimp only at H
   exact fF H
  have H := q7 h2 H
  refine Tr.draws mixed 29 kr ⟨42,0,[sB 38 true,sI 3 y1,sC 0 (cF 5 x0 zB.row)],[]⟩ (fun cx=>?_) ?_
  ·exact mA ZD [(0,[]),(1,[])] 27 [] fun cx=>iN ZD 2 zB.row ev3 fun cx=>mA ZD [(3,[])] 25 [] fun cx=>mC ZD 4<|vA [.rd] (zC6 n v3 r4 er4)<|fA<|mA ZD [(5,[]),(6,[])] 22 [] fun cx=>qA 65545 0 [16] h2<|mA ZD [(7,[]),(8,[]),(9,[]),(10,[]),(11,[]),(12,[]),(13,[]),(14,[]),(15,[]),(16,[]),(17,[]),(18,[]),(19,[]),(20,[]),(21,[]),(22,[]),(23,[]),(24,[]),(25,[]),(26,[]),(27,[]),(28,[])] 0 [] fun cx=>mE ZD [38,3,0] []
  refine tB_<|gA 1 4 0<|te ?_
  obtain rfl := si H
  have H := Ho2
  dsimp only at H
  exact fF H
 rintro _ H
 have H : (zAl n x0) = some r := H
 unfold zAl at H
 exact rA 1<|kF x0 zB.row<|uA 2 4 0<|te (fJ [(false,[cB (decide ((x0.length : Int) ≤ 12))])] H)
def zCS (n : Nat) : Option (Int) :=
  (some (-1))
def QH (n : Nat) : Nat → zD → Int → Int → Option ((Unit) ⊕ (Int))
  | 0,_,_,_ => none
  | mo2 + 1,x0,x1,y1 => (bif (decide (y1 < (x0.Rows.length : Int))) then ((idx x0.Rows y1).bind fun v3 => (bif (v3.Id == x1) then (some (Sum.inr y1)) else (QH n mo2 x0 x1 (IntKind.wrap .i64 (y1 + 1))))) else (some (Sum.inl ())))
def Y2 (n : Nat) (x0 : zD) (x1 : Int) : Option (Int) :=
  ((QH n n x0 x1 0).bind fun o => match o with | .inl _ => (zCS n) | .inr r => some r)
theorem zJg (n : Nat) (x0 : zD) (x1 : Int) (r : Int) (H : Y2 n x0 x1 = some r) : zJ Tryz.prog 172 [.val true (fR (zD.row x0)),.val false [.lit (.int .i64 x1)]] [.val false [.lit (.int .i64 r)]] [] := by
 refine cW Tryz.func172 (fun g d => sl [g 0,sl [g 1] (.block 0 (.loop (sl [sl [g 2] (cn 10 .skip (.exit 0)),.block 1 (sl [g 4] (cn 20 (sl [g 5] .ret) .skip))] (g 3)))),g 6] .ret) [.tmp 4] fun cx=>?_
 unfold Y2 at H
 refine gA 2 6 4<|tS<|gA 1 38 4 ?_
 obtain ⟨o2,eo2,Ho2⟩ := bs H
 clear H
 refine Tr.mid (ι := Unit) (fun v => ⟨22,0,[],[]⟩) (fun v => zCS n = some r) ?_ ?_
 ·refine tB<|Tr.loop (ι := Nat × (Int)) (fun v => ⟨22,0,[sI 5 v.2,sA 2 2 2 0,sI 1 x1],[(2,(fR (zD.row x0)))]⟩) (fun v => QH n v.1 x0 x1 v.2 = some o2) (fun v => v.1) (n,0) eo2 (St.sub_of [5,2,1] [2] kr) ?_
  rintro ⟨mo2,y1⟩ H
  have H : QH n mo2 x0 x1 y1 = some o2 := H
  obtain _ | mo2 := mo2
  ·exact nN H
  rw [QH] at H
  refine tS<|rA 3<|kF x0.Rows zC.row<|uA 1 1062 4 ?_
  obtain ⟨h1,H⟩ | ⟨h1,H⟩ := bC H
  ·refine nA h1<|Tr.exit<|aJ ?_
   obtain rfl := si H
   have H := Ho2
   dsimp only at H
   exact jA () H [] []
  refine tA h1<|tK<|tS<|tB<|rA 3<|bE H fun v3 ev3 H=> iA zC.row ev3<|uA 4 1048614 4 ?_
  obtain ⟨h2,H⟩ | ⟨h2,H⟩ := bC H
  ·exact nA h2<|tK<|eA 3 38 4<|jB mo2 (wI (y1 + 1)) H [5,2,1] [2]
  refine tA h2<|gA 2 16 0<|te ?_
  obtain rfl := si H
  have H := Ho2
  dsimp only at H
  exact fJ [(false,[cI y1])] H
 rintro _ H
 have H : (zCS n) = some r := H
 unfold zCS at H
 exact gA 1 16 0<|te (fJ [(false,[cI (-1)])] H)
def zBt (n : Nat) : Option (Bool) :=
  (some true)
def Zb (n : Nat) : Nat → zD → Int → Option ((Unit) ⊕ (Bool))
  | 0,_,_ => none
  | mo5 + 1,x0,y4 => (bif (decide (y4 < (x0.Pv.length : Int))) then ((idx x0.Pv y4).bind fun v6 => ((Y2 n x0 v6).bind fun r7 => (bif (decide (r7 < 0)) then (some (Sum.inr false)) else (Zb n mo5 x0 (IntKind.wrap .i64 (y4 + 1)))))) else (some (Sum.inl ())))
def YY (n : Nat) (x0 : zD) : Option (Bool) :=
  ((Zb n n x0 0).bind fun o => match o with | .inl _ => (zBt n) | .inr r => some r)
def ZL (n : Nat) : Nat → zD → Int → Int → Option ((Unit) ⊕ (Bool))
  | 0,_,_,_ => none
  | mo8 + 1,x0,x1,y3 => (bif (decide (y3 < (x0.Rows.length : Int))) then ((idx x0.Rows y3).bind fun v9 => ((zT n v9.Id 1 99).bind fun r10 => (bif (!r10) then (some (Sum.inr false)) else ((zT n v9.Members 0 (IntKind.wrap .i64 ((IntKind.wrap .i64 (1 * 2 ^ min (((IntKind.wrap .u64 x1) : Int)).toNat (IntKind.bits .i64))) - 1))).bind fun r11 => (bif (!r11) then (some (Sum.inr false)) else ((zT n v9.Bare 0 (IntKind.wrap .i64 ((IntKind.wrap .i64 (1 * 2 ^ min (((IntKind.wrap .u64 x1) : Int)).toNat (IntKind.bits .i64))) - 1))).bind fun r12 => (bif (!r12) then (some (Sum.inr false)) else (bif ((IntKind.wrap .i64 (BitVec.ofInt (IntKind.bits .i64) v9.Bare &&& BitVec.ofInt (IntKind.bits .i64) v9.Members).toNat) != v9.Bare) then (some (Sum.inr false)) else (bif (decide (y3 > 0)) then ((idx x0.Rows (IntKind.wrap .i64 (y3 - 1))).bind fun v13 => (bif (decide (v13.Id ≥ v9.Id)) then (some (Sum.inr false)) else (ZL n mo8 x0 x1 (IntKind.wrap .i64 (y3 + 1))))) else (ZL n mo8 x0 x1 (IntKind.wrap .i64 (y3 + 1)))))))))))) else (some (Sum.inl ())))
def zl (n : Nat) (x0 : zD) (x1 : Int) : Option (Bool) :=
  ((zT n x1 1 6).bind fun r1 => (bif (!r1) then (some false) else (bif ((x0.Pv.length : Int) != x1) then (some false) else (bif (decide ((x0.Rows.length : Int) > 6)) then (some false) else (bif (decide ((0 : Int) ≤ (IntKind.wrap .u64 x1))) then ((ZL n n x0 x1 0).bind fun o => match o with | .inl _ => (YY n x0) | .inr r => some r) else none)))))
def zPI : Tab := ⟨44,[0,1,2,4,12,16,48,16,208,272,528,1280,2048,6144,2048,26624,34816,67584,163840,262144,786432,262144,2359296,5505024,262144,17039360,42205184,67371008,134479872,268435456,805306368,1342177280,2147483648,6442450944,2147483648,19327352832,45097156608,70866960384,139586437120,2147483648,551903297536,1376537018368,2201439174656,4398314946560],[0,1,2,4,8,16,48,16,208,272,528,1024,2048,6144,2048,26624,34816,67584,131072,262144,786432,262144,2359296,5505024,262144,17039360,42205184,67371008,134217728,268435456,805306368,1342177280,2147483648,6442450944,2147483648,19327352832,45097156608,70866960384,139586437120,2147483648,551903297536,1376537018368,2201439174656,4398314946560],[0,1,3,7,15,31,63,31,255,511,1023,2047,4095,8191,4095,32767,65535,131071,262143,524287,1048575,524287,2621439,8388607,524287,17301503,67108863,134217727,268435455,536870911,1073741823,2147483647,4294967295,8589934591,4294967295,21474836479,68719476735,137438953471,274877906943,4294967295,554050781183,2199023255551,4398046511103,8796093022207]⟩
theorem zc : zg (rg Tryz.f104 8) zPI = true := kr
theorem zKX (n : Nat) (y3 : Int) (v9 : zC) (x1 : Int) (x0 : zD) (h11 : (decide (y3 > 0)) = false) (cx : Cx) : AT Tryz.prog cx (rg Tryz.f104 8) [⟨[],3,65,66⟩,⟨[],3,62,63⟩,⟨[],3,60,61⟩,⟨[15],3,53,54⟩,⟨[8,15],3,46,47⟩,⟨[2,8,15],3,41,42⟩] 15 [28,27,26,25,24,23,22,21,20,19,18,17,16,15,14,13,12,11,10,9,8,7,6,5,4,3,2,1,0] ⟨100,0,[sB 69 false,sI 66 v9.Bare,sA 65 7 3 2,sI 63 v9.Members,sA 62 7 3 1,sI 61 v9.Bare,sA 60 7 3 2,sI 54 v9.Bare,sA 53 7 3 2,sI 47 v9.Members,sA 46 7 3 1,sI 42 v9.Id,sA 41 7 3 0,sA 7 7 3 0,sI 6 y3,sI 5 (wI ((wI (1 * 2 ^ min (((IntKind.wrap .u64 x1) : Int)).toNat (IntKind.bits .i64))) - 1)),sA 2 2 2 0],[(7,(zC.row v9)),(2,(fR (zD.row x0)))]⟩ (fun s => s = ⟨100,0,[sB 84 false,sI 6 y3,sI 5 (wI ((wI (1 * 2 ^ min (((IntKind.wrap .u64 x1) : Int)).toNat (IntKind.bits .i64))) - 1)),sA 2 2 2 0],[(2,(fR (zD.row x0)))]⟩) := by
 exact mA zc [(29,[]),(30,[]),(31,[])] 12 [⟨[],3,65,66⟩,⟨[],3,62,63⟩,⟨[],3,60,61⟩,⟨[15],3,53,54⟩,⟨[8,15],3,46,47⟩,⟨[2,8,15],3,41,42⟩] fun cx=>qA 0x126f060c600000000e4 132 [72] h11<|mA zc [(32,[]),(33,[]),(34,[]),(35,[]),(36,[]),(37,[]),(38,[]),(39,[]),(40,[]),(41,[]),(42,[]),(43,[])] 0 [⟨[],3,65,66⟩,⟨[],3,62,63⟩,⟨[],3,60,61⟩,⟨[15],3,53,54⟩,⟨[8,15],3,46,47⟩,⟨[2,8,15],3,41,42⟩] fun cx=>mE zc [84,6,5,2] [2]
theorem zKY (n : Nat) (y3 : Int) (v9 : zC) (x1 : Int) (x0 : zD) (v13 : zC) (h11 : (decide (y3 > 0)) = true) (ev13 : (idx x0.Rows (wI (y3 - 1))) = some v13) (cx : Cx) : AT Tryz.prog cx (rg Tryz.f104 8) [⟨[],3,65,66⟩,⟨[],3,62,63⟩,⟨[],3,60,61⟩,⟨[15],3,53,54⟩,⟨[8,15],3,46,47⟩,⟨[2,8,15],3,41,42⟩] 15 [28,27,26,25,24,23,22,21,20,19,18,17,16,15,14,13,12,11,10,9,8,7,6,5,4,3,2,1,0] ⟨100,0,[sB 69 false,sI 66 v9.Bare,sA 65 7 3 2,sI 63 v9.Members,sA 62 7 3 1,sI 61 v9.Bare,sA 60 7 3 2,sI 54 v9.Bare,sA 53 7 3 2,sI 47 v9.Members,sA 46 7 3 1,sI 42 v9.Id,sA 41 7 3 0,sA 7 7 3 0,sI 6 y3,sI 5 (wI ((wI (1 * 2 ^ min (((IntKind.wrap .u64 x1) : Int)).toNat (IntKind.bits .i64))) - 1)),sA 2 2 2 0],[(7,(zC.row v9)),(2,(fR (zD.row x0)))]⟩ (fun s => s = ⟨100,0,[sB 84 (decide (v13.Id ≥ v9.Id)),sI 6 y3,sI 5 (wI ((wI (1 * 2 ^ min (((IntKind.wrap .u64 x1) : Int)).toNat (IntKind.bits .i64))) - 1)),sA 2 2 2 0],[(2,(fR (zD.row x0)))]⟩) := by
 exact mA zc [(29,[]),(30,[]),(31,[])] 12 [⟨[],3,65,66⟩,⟨[],3,62,63⟩,⟨[],3,60,61⟩,⟨[15],3,53,54⟩,⟨[8,15],3,46,47⟩,⟨[2,8,15],3,41,42⟩] fun cx=>qA 0x126f060c600000000e4 132 [72] h11<|mA zc [(32,[]),(33,[]),(34,[]),(35,[])] 8 [⟨[],26,73,74⟩,⟨[],3,65,66⟩,⟨[],3,62,63⟩,⟨[],3,60,61⟩,⟨[15],3,53,54⟩,⟨[8,15],3,46,47⟩,⟨[2,8,15],3,41,42⟩] fun cx=>iN zc 36 zC.row ev13 fun cx=>mA zc [(37,[]),(38,[]),(39,[]),(40,[]),(41,[]),(42,[]),(43,[])] 0 [⟨[],3,80,81⟩,⟨[],26,73,74⟩,⟨[],3,65,66⟩,⟨[],3,62,63⟩,⟨[],3,60,61⟩,⟨[15],3,53,54⟩,⟨[8,15],3,46,47⟩,⟨[2,8,15],3,41,42⟩] fun cx=>mE zc [84,6,5,2] [2]
theorem zKZ (n : Nat) (v9 : zC) (y3 : Int) (x1 : Int) (x0 : zD) (cx : Cx) : AT Tryz.prog cx (rg Tryz.f104 8) [⟨[],3,65,66⟩,⟨[],3,62,63⟩,⟨[],3,60,61⟩,⟨[15],3,53,54⟩,⟨[8,15],3,46,47⟩,⟨[2,8,15],3,41,42⟩] 15 [28,27,26,25,24,23,22,21,20,19,18,17,16,15,14,13,12,11,10,9,8,7,6,5,4,3,2,1,0] ⟨100,0,[sB 69 true,sI 66 v9.Bare,sA 65 7 3 2,sI 63 v9.Members,sA 62 7 3 1,sI 61 v9.Bare,sA 60 7 3 2,sI 54 v9.Bare,sA 53 7 3 2,sI 47 v9.Members,sA 46 7 3 1,sI 42 v9.Id,sA 41 7 3 0,sA 7 7 3 0,sI 6 y3,sI 5 (wI ((wI (1 * 2 ^ min (((IntKind.wrap .u64 x1) : Int)).toNat (IntKind.bits .i64))) - 1)),sA 2 2 2 0],[(7,(zC.row v9)),(2,(fR (zD.row x0)))]⟩ (fun s => s = ⟨100,0,[sB 84 true,sI 6 y3,sI 5 (wI ((wI (1 * 2 ^ min (((IntKind.wrap .u64 x1) : Int)).toNat (IntKind.bits .i64))) - 1)),sA 2 2 2 0],[(2,(fR (zD.row x0)))]⟩) := by
 exact mA zc [(29,[]),(30,[]),(31,[]),(32,[]),(33,[]),(34,[]),(35,[]),(36,[]),(37,[]),(38,[]),(39,[]),(40,[]),(41,[]),(42,[]),(43,[])] 0 [⟨[],3,65,66⟩,⟨[],3,62,63⟩,⟨[],3,60,61⟩,⟨[15],3,53,54⟩,⟨[8,15],3,46,47⟩,⟨[2,8,15],3,41,42⟩] fun cx=>mE zc [84,6,5,2] [2]
theorem zCB (n : Nat) (x0 : zD) (x1 : Int) (r : Bool) (H : zl n x0 x1 = some r) : zJ Tryz.prog 104 [.val true (fR (zD.row x0)),.val false [.lit (.int .i64 x1)]] [.val false [.lit (.bool r)]] [] := by
 refine cW Tryz.func104 (fun g d => sl [g 0,sl [g 1] (cn 24 (sl [g 2] .ret) .skip),g 3,sl [g 4] (.block 0 (.loop (sl [sl [g 5] (cn 33 .skip (.exit 0)),.block 1 (sl [g 7,d 8] (cn 84 (sl [g 9] .ret) .skip))] (g 6)))),sl [g 10] (.block 2 (.loop (sl [sl [g 11] (cn 89 .skip (.exit 2)),.block 3 (sl [d 13] (cn 99 (sl [g 14] .ret) .skip))] (g 12)))),g 15] .ret) [.tmp 4] fun cx=>?_
 unfold zl at H
 refine gA 2 6 4<|tS<|rA 1<|bE H fun r1 er1 H=> vA [.rd,.rd,.rd] (zU n x1 1 6 r1 er1)<|lA 2 ?_
 obtain ⟨h1,H⟩ | ⟨h1,H⟩ := bC H
 ·refine qL 4102 4 [12] h1<|lA 2<|kF x0.Pv intRow<|lA 4 ?_
  obtain ⟨h2,H⟩ | ⟨h2,H⟩ := bC H
  ·refine qL 524294 4 [19] h2<|lA 2<|kF x0.Rows zC.row<|uA 2 16777222 4 ?_
   obtain ⟨h3,H⟩ | ⟨h3,H⟩ := bC H
   ·refine nA h3<|tK<|rA 2<|gE H fun hg2 H=> LAt.binC tOk (op := .shl) (t := 3) (ty := 163) (ty' := 3) (x := (.const (.int .i64 1))) (y := (.tmp 26)) (d := 27) (g := none) (.int .i64 1) (.int .u64 (IntKind.wrap .u64 x1)) (.int .i64 (wI (1 * 2 ^ min (((IntKind.wrap .u64 x1) : Int)).toNat (IntKind.bits .i64)))) _ kr kr kr kr kr (φ := (0 : Int) ≤ (IntKind.wrap .u64 x1)) kr (of_decide_eq_true hg2) rfl<|uA 2 36 4<|tS<|gA 1 100 4 ?_
    obtain ⟨o8,eo8,Ho8⟩ := bs H
    clear H
    refine Tr.mid (ι := Unit) (fun v => ⟨100,0,[sA 2 2 2 0],[(2,(fR (zD.row x0)))]⟩) (fun v => YY n x0 = some r) ?_ ?_
    ·refine tB<|Tr.loop (ι := Nat × (Int)) (fun v => ⟨100,0,[sI 6 v.2,sI 5 (wI ((wI (1 * 2 ^ min (((IntKind.wrap .u64 x1) : Int)).toNat (IntKind.bits .i64))) - 1)),sA 2 2 2 0],[(2,(fR (zD.row x0)))]⟩) (fun v => ZL n v.1 x0 x1 v.2 = some o8) (fun v => v.1) (n,0) eo8 (St.sub_of [6,5,2] [2] kr) ?_
     rintro ⟨mo8,y3⟩ H
     have H : ZL n mo8 x0 x1 y3 = some o8 := H
     obtain _ | mo8 := mo8
     ·exact nN H
     rw [ZL] at H
     refine tS<|rA 3<|kF x0.Rows zC.row<|uA 1 8589934692 4 ?_
     obtain ⟨h6,H⟩ | ⟨h6,H⟩ := bC H
     ·refine nA h6<|Tr.exit<|aJ ?_
      obtain rfl := si H
      have H := Ho8
      dsimp only at H
      exact jA () H [2] [2]
     refine tA h6<|tK<|tS<|tB<|rA 3<|bE H fun v9 ev9 H=> iA zC.row ev9<|uA 3 228 132<|bE H fun r10 er10 H=> sT ⟨100,0,[sA 7 7 3 0,sI 6 y3,sI 5 (wI ((wI (1 * 2 ^ min (((IntKind.wrap .u64 x1) : Int)).toNat (IntKind.bits .i64))) - 1)),sA 2 2 2 0],[(7,(zC.row v9)),(2,(fR (zD.row x0)))]⟩ ?_
     cases h7 : (!r10)
     ·have H := q3 h7 H
      refine bE H fun r11 er11 H=> sT ⟨100,0,[sA 7 7 3 0,sI 6 y3,sI 5 (wI ((wI (1 * 2 ^ min (((IntKind.wrap .u64 x1) : Int)).toNat (IntKind.bits .i64))) - 1)),sA 2 2 2 0],[(7,(zC.row v9)),(2,(fR (zD.row x0)))]⟩ ?_
      cases h8 : (!r11)
      ·have H := q3 h8 H
       refine bE H fun r12 er12 H=> sT ⟨100,0,[sA 7 7 3 0,sI 6 y3,sI 5 (wI ((wI (1 * 2 ^ min (((IntKind.wrap .u64 x1) : Int)).toNat (IntKind.bits .i64))) - 1)),sA 2 2 2 0],[(7,(zC.row v9)),(2,(fR (zD.row x0)))]⟩ ?_
       cases h9 : (!r12)
       ·have H := q3 h9 H
        refine sT ⟨100,0,[sA 7 7 3 0,sI 6 y3,sI 5 (wI ((wI (1 * 2 ^ min (((IntKind.wrap .u64 x1) : Int)).toNat (IntKind.bits .i64))) - 1)),sA 2 2 2 0],[(7,(zC.row v9)),(2,(fR (zD.row x0)))]⟩ ?_
        cases h10 : ((wI (BitVec.ofInt (IntKind.bits .i64) v9.Bare &&& BitVec.ofInt (IntKind.bits .i64) v9.Members).toNat) != v9.Bare)
        ·have H := q3 h10 H
         refine sT ⟨100,0,[sA 7 7 3 0,sI 6 y3,sI 5 (wI ((wI (1 * 2 ^ min (((IntKind.wrap .u64 x1) : Int)).toNat (IntKind.bits .i64))) - 1)),sA 2 2 2 0],[(7,(zC.row v9)),(2,(fR (zD.row x0)))]⟩ ?_
         cases h11 : (decide (y3 > 0))
         ·have H := q3 h11 H
          refine Tr.draws mixed 44 kr ⟨100,0,[sB 84 false,sI 6 y3,sI 5 (wI ((wI (1 * 2 ^ min (((IntKind.wrap .u64 x1) : Int)).toNat (IntKind.bits .i64))) - 1)),sA 2 2 2 0],[(2,(fR (zD.row x0)))]⟩ (fun cx=>?_) ?_
          ·refine mA zc [(0,[]),(1,[2,8,15])] 42 [⟨[2,8,15],3,41,42⟩] fun cx=>mC zc 2<|vA [.rd,.rd,.rd] (zU n v9.Id 1 99 r10 er10)<|fA<|mA zc [(3,[]),(4,[])] 39 [⟨[2,8,15],3,41,42⟩] fun cx=>qA 41781441855716 132 [45] h7<|mA zc [(5,[]),(6,[8,15]),(7,[])] 36 [⟨[8,15],3,46,47⟩,⟨[2,8,15],3,41,42⟩] fun cx=>mC zc 8<|vA [.rd,.rd,.rd] (zU n v9.Members 0 (wI ((wI (1 * 2 ^ min (((IntKind.wrap .u64 x1) : Int)).toNat (IntKind.bits .i64))) - 1)) r11 er11)<|fA<|mA zc [(9,[]),(10,[]),(11,[])] 32 [⟨[8,15],3,46,47⟩,⟨[2,8,15],3,41,42⟩] fun cx=>qA 4721302929670372 132 [52] h8<|mA zc [(12,[]),(13,[15]),(14,[])] 29 [⟨[15],3,53,54⟩,⟨[8,15],3,46,47⟩,⟨[2,8,15],3,41,42⟩] fun cx=>mC zc 15<|vA [.rd,.rd,.rd] (zU n v9.Bare 0 (wI ((wI (1 * 2 ^ min (((IntKind.wrap .u64 x1) : Int)).toNat (IntKind.bits .i64))) - 1)) r12 er12)<|fA<|mA zc [(16,[]),(17,[]),(18,[])] 25 [⟨[15],3,53,54⟩,⟨[8,15],3,46,47⟩,⟨[2,8,15],3,41,42⟩] fun cx=>qA 0x860c600000000e4 132 [59] h9<|mA zc [(19,[]),(20,[]),(21,[]),(22,[]),(23,[]),(24,[]),(25,[]),(26,[]),(27,[]),(28,[])] 15 [⟨[],3,65,66⟩,⟨[],3,62,63⟩,⟨[],3,60,61⟩,⟨[15],3,53,54⟩,⟨[8,15],3,46,47⟩,⟨[2,8,15],3,41,42⟩] fun cx=>sA_ 0x26f060c600000000e4 132 ⟨100,0,[sB 69 ((wI (BitVec.ofInt (IntKind.bits .i64) v9.Bare &&& BitVec.ofInt (IntKind.bits .i64) v9.Members).toNat) != v9.Bare),sI 66 v9.Bare,sA 65 7 3 2,sI 63 v9.Members,sA 62 7 3 1,sI 61 v9.Bare,sA 60 7 3 2,sI 54 v9.Bare,sA 53 7 3 2,sI 47 v9.Members,sA 46 7 3 1,sI 42 v9.Id,sA 41 7 3 0,sA 7 7 3 0,sI 6 y3,sI 5 (wI ((wI (1 * 2 ^ min (((IntKind.wrap .u64 x1) : Int)).toNat (IntKind.bits .i64))) - 1)),sA 2 2 2 0],[(7,(zC.row v9)),(2,(fR (zD.row x0)))]⟩ ?_
           rw [h10]
           exact zKX n y3 v9 x1 x0 h11 cx
          exact nB_<|tK<|eA 3 100 4<|jB mo8 (wI (y3 + 1)) H [6,5,2] [2]
         have H := q7 h11 H
         refine bE H fun v13 ev13 H=> Tr.draws mixed 44 kr ⟨100,0,[sB 84 (decide (v13.Id ≥ v9.Id)),sI 6 y3,sI 5 (wI ((wI (1 * 2 ^ min (((IntKind.wrap .u64 x1) : Int)).toNat (IntKind.bits .i64))) - 1)),sA 2 2 2 0],[(2,(fR (zD.row x0)))]⟩ (fun cx=>?_) ?_
         ·refine mA zc [(0,[]),(1,[2,8,15])] 42 [⟨[2,8,15],3,41,42⟩] fun cx=>mC zc 2<|vA [.rd,.rd,.rd] (zU n v9.Id 1 99 r10 er10)<|fA<|mA zc [(3,[]),(4,[])] 39 [⟨[2,8,15],3,41,42⟩] fun cx=>qA 41781441855716 132 [45] h7<|mA zc [(5,[]),(6,[8,15]),(7,[])] 36 [⟨[8,15],3,46,47⟩,⟨[2,8,15],3,41,42⟩] fun cx=>mC zc 8<|vA [.rd,.rd,.rd] (zU n v9.Members 0 (wI ((wI (1 * 2 ^ min (((IntKind.wrap .u64 x1) : Int)).toNat (IntKind.bits .i64))) - 1)) r11 er11)<|fA<|mA zc [(9,[]),(10,[]),(11,[])] 32 [⟨[8,15],3,46,47⟩,⟨[2,8,15],3,41,42⟩] fun cx=>qA 4721302929670372 132 [52] h8<|mA zc [(12,[]),(13,[15]),(14,[])] 29 [⟨[15],3,53,54⟩,⟨[8,15],3,46,47⟩,⟨[2,8,15],3,41,42⟩] fun cx=>mC zc 15<|vA [.rd,.rd,.rd] (zU n v9.Bare 0 (wI ((wI (1 * 2 ^ min (((IntKind.wrap .u64 x1) : Int)).toNat (IntKind.bits .i64))) - 1)) r12 er12)<|fA<|mA zc [(16,[]),(17,[]),(18,[])] 25 [⟨[15],3,53,54⟩,⟨[8,15],3,46,47⟩,⟨[2,8,15],3,41,42⟩] fun cx=>qA 0x860c600000000e4 132 [59] h9<|mA zc [(19,[]),(20,[]),(21,[]),(22,[]),(23,[]),(24,[]),(25,[]),(26,[]),(27,[]),(28,[])] 15 [⟨[],3,65,66⟩,⟨[],3,62,63⟩,⟨[],3,60,61⟩,⟨[15],3,53,54⟩,⟨[8,15],3,46,47⟩,⟨[2,8,15],3,41,42⟩] fun cx=>sA_ 0x26f060c600000000e4 132 ⟨100,0,[sB 69 ((wI (BitVec.ofInt (IntKind.bits .i64) v9.Bare &&& BitVec.ofInt (IntKind.bits .i64) v9.Members).toNat) != v9.Bare),sI 66 v9.Bare,sA 65 7 3 2,sI 63 v9.Members,sA 62 7 3 1,sI 61 v9.Bare,sA 60 7 3 2,sI 54 v9.Bare,sA 53 7 3 2,sI 47 v9.Members,sA 46 7 3 1,sI 42 v9.Id,sA 41 7 3 0,sA 7 7 3 0,sI 6 y3,sI 5 (wI ((wI (1 * 2 ^ min (((IntKind.wrap .u64 x1) : Int)).toNat (IntKind.bits .i64))) - 1)),sA 2 2 2 0],[(7,(zC.row v9)),(2,(fR (zD.row x0)))]⟩ ?_
          rw [h10]
          exact zKY n y3 v9 x1 x0 v13 h11 ev13 cx
         obtain ⟨h12,H⟩ | ⟨h12,H⟩ := bC H
         ·exact qT [84] h12<|nB_<|tK<|eA 3 100 4<|jB mo8 (wI (y3 + 1)) H [6,5,2] [2]
         refine qT [84] h12<|tB_<|gA 1 16 0<|te ?_
         obtain rfl := si H
         have H := Ho8
         dsimp only at H
         exact fF H
        have H := q7 h10 H
        refine Tr.draws mixed 44 kr ⟨100,0,[sB 84 true,sI 6 y3,sI 5 (wI ((wI (1 * 2 ^ min (((IntKind.wrap .u64 x1) : Int)).toNat (IntKind.bits .i64))) - 1)),sA 2 2 2 0],[(2,(fR (zD.row x0)))]⟩ (fun cx=>?_) ?_
        ·refine mA zc [(0,[]),(1,[2,8,15])] 42 [⟨[2,8,15],3,41,42⟩] fun cx=>mC zc 2<|vA [.rd,.rd,.rd] (zU n v9.Id 1 99 r10 er10)<|fA<|mA zc [(3,[]),(4,[])] 39 [⟨[2,8,15],3,41,42⟩] fun cx=>qA 41781441855716 132 [45] h7<|mA zc [(5,[]),(6,[8,15]),(7,[])] 36 [⟨[8,15],3,46,47⟩,⟨[2,8,15],3,41,42⟩] fun cx=>mC zc 8<|vA [.rd,.rd,.rd] (zU n v9.Members 0 (wI ((wI (1 * 2 ^ min (((IntKind.wrap .u64 x1) : Int)).toNat (IntKind.bits .i64))) - 1)) r11 er11)<|fA<|mA zc [(9,[]),(10,[]),(11,[])] 32 [⟨[8,15],3,46,47⟩,⟨[2,8,15],3,41,42⟩] fun cx=>qA 4721302929670372 132 [52] h8<|mA zc [(12,[]),(13,[15]),(14,[])] 29 [⟨[15],3,53,54⟩,⟨[8,15],3,46,47⟩,⟨[2,8,15],3,41,42⟩] fun cx=>mC zc 15<|vA [.rd,.rd,.rd] (zU n v9.Bare 0 (wI ((wI (1 * 2 ^ min (((IntKind.wrap .u64 x1) : Int)).toNat (IntKind.bits .i64))) - 1)) r12 er12)<|fA<|mA zc [(16,[]),(17,[]),(18,[])] 25 [⟨[15],3,53,54⟩,⟨[8,15],3,46,47⟩,⟨[2,8,15],3,41,42⟩] fun cx=>qA 0x860c600000000e4 132 [59] h9<|mA zc [(19,[]),(20,[]),(21,[]),(22,[]),(23,[]),(24,[]),(25,[]),(26,[]),(27,[]),(28,[])] 15 [⟨[],3,65,66⟩,⟨[],3,62,63⟩,⟨[],3,60,61⟩,⟨[15],3,53,54⟩,⟨[8,15],3,46,47⟩,⟨[2,8,15],3,41,42⟩] fun cx=>sA_ 0x26f060c600000000e4 132 ⟨100,0,[sB 69 ((wI (BitVec.ofInt (IntKind.bits .i64) v9.Bare &&& BitVec.ofInt (IntKind.bits .i64) v9.Members).toNat) != v9.Bare),sI 66 v9.Bare,sA 65 7 3 2,sI 63 v9.Members,sA 62 7 3 1,sI 61 v9.Bare,sA 60 7 3 2,sI 54 v9.Bare,sA 53 7 3 2,sI 47 v9.Members,sA 46 7 3 1,sI 42 v9.Id,sA 41 7 3 0,sA 7 7 3 0,sI 6 y3,sI 5 (wI ((wI (1 * 2 ^ min (((IntKind.wrap .u64 x1) : Int)).toNat (IntKind.bits .i64))) - 1)),sA 2 2 2 0],[(7,(zC.row v9)),(2,(fR (zD.row x0)))]⟩ ?_
         rw [h10]
         exact zKZ n v9 y3 x1 x0 cx
        refine tB_<|gA 1 16 0<|te ?_
        obtain rfl := si H
        have H := Ho8
        dsimp only at H
        exact fF H
       have H := q7 h9 H
       refine Tr.draws mixed 44 kr ⟨100,0,[sB 84 true,sI 6 y3,sI 5 (wI ((wI (1 * 2 ^ min (((IntKind.wrap .u64 x1) : Int)).toNat (IntKind.bits .i64))) - 1)),sA 2 2 2 0],[(2,(fR (zD.row x0)))]⟩ (fun cx=>?_) ?_
       ·exact mA zc [(0,[]),(1,[2,8,15])] 42 [⟨[2,8,15],3,41,42⟩] fun cx=>mC zc 2<|vA [.rd,.rd,.rd] (zU n v9.Id 1 99 r10 er10)<|fA<|mA zc [(3,[]),(4,[])] 39 [⟨[2,8,15],3,41,42⟩] fun cx=>qA 41781441855716 132 [45] h7<|mA zc [(5,[]),(6,[8,15]),(7,[])] 36 [⟨[8,15],3,46,47⟩,⟨[2,8,15],3,41,42⟩] fun cx=>mC zc 8<|vA [.rd,.rd,.rd] (zU n v9.Members 0 (wI ((wI (1 * 2 ^ min (((IntKind.wrap .u64 x1) : Int)).toNat (IntKind.bits .i64))) - 1)) r11 er11)<|fA<|mA zc [(9,[]),(10,[]),(11,[])] 32 [⟨[8,15],3,46,47⟩,⟨[2,8,15],3,41,42⟩] fun cx=>qA 4721302929670372 132 [52] h8<|mA zc [(12,[]),(13,[15]),(14,[])] 29 [⟨[15],3,53,54⟩,⟨[8,15],3,46,47⟩,⟨[2,8,15],3,41,42⟩] fun cx=>mC zc 15<|vA [.rd,.rd,.rd] (zU n v9.Bare 0 (wI ((wI (1 * 2 ^ min (((IntKind.wrap .u64 x1) : Int)).toNat (IntKind.bits .i64))) - 1)) r12 er12)<|fA<|mA zc [(16,[]),(17,[]),(18,[])] 25 [⟨[15],3,53,54⟩,⟨[8,15],3,46,47⟩,⟨[2,8,15],3,41,42⟩] fun cx=>qA 0x860c600000000e4 132 [59] h9<|mA zc [(19,[]),(20,[]),(21,[]),(22,[]),(23,[]),(24,[]),(25,[]),(26,[]),(27,[]),(28,[]),(29,[]),(30,[]),(31,[]),(32,[]),(33,[]),(34,[]),(35,[]),(36,[]),(37,[]),(38,[]),(39,[]),(40,[]),(41,[]),(42,[]),(43,[])] 0 [⟨[15],3,53,54⟩,⟨[8,15],3,46,47⟩,⟨[2,8,15],3,41,42⟩] fun cx=>mE zc [84,6,5,2] [2]
       refine tB_<|gA 1 16 0<|te ?_
       obtain rfl := si H
       have H := Ho8
       dsimp only at H
       exact fF H
      have H := q7 h8 H
      refine Tr.draws mixed 44 kr ⟨100,0,[sB 84 true,sI 6 y3,sI 5 (wI ((wI (1 * 2 ^ min (((IntKind.wrap .u64 x1) : Int)).toNat (IntKind.bits .i64))) - 1)),sA 2 2 2 0],[(2,(fR (zD.row x0)))]⟩ (fun cx=>?_) ?_
      ·exact mA zc [(0,[]),(1,[2,8])] 42 [⟨[2,8],3,41,42⟩] fun cx=>mC zc 2<|vA [.rd,.rd,.rd] (zU n v9.Id 1 99 r10 er10)<|fA<|mA zc [(3,[]),(4,[])] 39 [⟨[2,8],3,41,42⟩] fun cx=>qA 41781441855716 132 [45] h7<|mA zc [(5,[]),(6,[8]),(7,[])] 36 [⟨[8],3,46,47⟩,⟨[2,8],3,41,42⟩] fun cx=>mC zc 8<|vA [.rd,.rd,.rd] (zU n v9.Members 0 (wI ((wI (1 * 2 ^ min (((IntKind.wrap .u64 x1) : Int)).toNat (IntKind.bits .i64))) - 1)) r11 er11)<|fA<|mA zc [(9,[]),(10,[]),(11,[])] 32 [⟨[8],3,46,47⟩,⟨[2,8],3,41,42⟩] fun cx=>qA 4721302929670372 132 [52] h8<|mA zc [(12,[]),(13,[]),(14,[]),(15,[]),(16,[]),(17,[]),(18,[]),(19,[]),(20,[]),(21,[]),(22,[]),(23,[]),(24,[]),(25,[]),(26,[]),(27,[]),(28,[]),(29,[]),(30,[]),(31,[]),(32,[]),(33,[]),(34,[]),(35,[]),(36,[]),(37,[]),(38,[]),(39,[]),(40,[]),(41,[]),(42,[]),(43,[])] 0 [⟨[8],3,46,47⟩,⟨[2,8],3,41,42⟩] fun cx=>mE zc [84,6,5,2] [2]
      refine tB_<|gA 1 16 0<|te ?_
      obtain rfl := si H
      have H := Ho8
      dsimp only at H
      exact fF H
     have H := q7 h7 H
     refine Tr.draws mixed 44 kr ⟨100,0,[sB 84 true,sI 6 y3,sI 5 (wI ((wI (1 * 2 ^ min (((IntKind.wrap .u64 x1) : Int)).toNat (IntKind.bits .i64))) - 1)),sA 2 2 2 0],[(2,(fR (zD.row x0)))]⟩ (fun cx=>?_) ?_
     ·exact mA zc [(0,[]),(1,[2])] 42 [⟨[2],3,41,42⟩] fun cx=>mC zc 2<|vA [.rd,.rd,.rd] (zU n v9.Id 1 99 r10 er10)<|fA<|mA zc [(3,[]),(4,[])] 39 [⟨[2],3,41,42⟩] fun cx=>qA 41781441855716 132 [45] h7<|mA zc [(5,[]),(6,[]),(7,[]),(8,[]),(9,[]),(10,[]),(11,[]),(12,[]),(13,[]),(14,[]),(15,[]),(16,[]),(17,[]),(18,[]),(19,[]),(20,[]),(21,[]),(22,[]),(23,[]),(24,[]),(25,[]),(26,[]),(27,[]),(28,[]),(29,[]),(30,[]),(31,[]),(32,[]),(33,[]),(34,[]),(35,[]),(36,[]),(37,[]),(38,[]),(39,[]),(40,[]),(41,[]),(42,[]),(43,[])] 0 [⟨[2],3,41,42⟩] fun cx=>mE zc [84,6,5,2] [2]
     refine tB_<|gA 1 16 0<|te ?_
     obtain rfl := si H
     have H := Ho8
     dsimp only at H
     exact fF H
    rintro _ H
    have H : (YY n x0) = some r := H
    unfold YY at H
    refine tS<|gA 1 260 4 ?_
    obtain ⟨o5,eo5,Ho5⟩ := bs H
    clear H
    refine Tr.mid (ι := Unit) (fun v => ⟨100,0,[],[]⟩) (fun v => zBt n = some r) ?_ ?_
    ·refine tB<|Tr.loop (ι := Nat × (Int)) (fun v => ⟨100,0,[sI 8 v.2,sA 2 2 2 0],[(2,(fR (zD.row x0)))]⟩) (fun v => Zb n v.1 x0 v.2 = some o5) (fun v => v.1) (n,0) eo5 (St.sub_of [8,2] [2] kr) ?_
     rintro ⟨mo5,y4⟩ H
     have H : Zb n mo5 x0 y4 = some o5 := H
     obtain _ | mo5 := mo5
     ·exact nN H
     rw [Zb] at H
     refine tS<|rA 3<|kF x0.Pv intRow<|uA 1 0x20000000000000000000104 4 ?_
     obtain ⟨h4,H⟩ | ⟨h4,H⟩ := bC H
     ·refine nA h4<|Tr.exit<|aJ ?_
      obtain rfl := si H
      have H := Ho5
      dsimp only at H
      exact jA () H [] []
     refine tA h4<|tK<|tS<|tB<|bE H fun v6 ev6 H=> bE H fun r7 er7 H=> Tr.draws mixed 8 kr ⟨100,0,[sB 99 (decide (r7 < 0)),sI 8 y4,sA 2 2 2 0],[(2,(fR (zD.row x0)))]⟩ (fun cx=>?_) ?_
     ·refine aA [(0,[6]),(1,[]),(2,[6]),(3,[])] 4 [⟨[6],27,93,94⟩,⟨[6],29,2,92⟩] fun cx=>aI tOk 4 27 0 94 95 96 none ⟨(.box 2),[(0,0)],1,false,1,(CV.frzEs (x0.Pv.map intRow))⟩ y4 [cI v6] _ kr kr kr kr kr kr rfl (Qt ev6) rfl (fun cx=>?_)
      exact aA [(5,[])] 2 [⟨[6],27,93,94⟩,⟨[6],29,2,92⟩] fun cx=>bA 6<|vA [.rd,.rd] (zJg n x0 v6 r7 er7)<|fA<|aA [(7,[])] 0 [⟨[6],27,93,94⟩,⟨[6],29,2,92⟩] fun cx=>eE [99,8,2] [2]
     obtain ⟨h5,H⟩ | ⟨h5,H⟩ := bC H
     ·exact qT [99] h5<|nB_<|tK<|eA 3 260 4<|jB mo5 (wI (y4 + 1)) H [8,2] [2]
     refine qT [99] h5<|tB_<|gA 1 16 0<|te ?_
     obtain rfl := si H
     have H := Ho5
     dsimp only at H
     exact fF H
    rintro _ H
    have H : (zBt n) = some r := H
    unfold zBt at H
    exact gA 1 16 0<|te (fT H)
   exact tA h3<|gA 1 16 0<|te (fF H)
  exact qL 524294 4 [19] h2<|uA 5 16777222 4<|tB_<|gA 1 16 0<|te (fF H)
 exact qL 4102 4 [12] h1<|uA 12 16777222 4<|tB_<|gA 1 16 0<|te (fF H)
def Yt (n : Nat) (x0 : zA) : Option (Bool) :=
  ((zT n x0.Tk 0 1000000).bind fun r1 => (bif r1 then ((zT n x0.Pa 0 1000000).bind fun r2 => (bif r2 then ((zT n x0.Wo 0 1000000).bind fun r3 => (bif r3 then ((zT n x0.Dr 0 1000000).bind fun r4 => (bif r4 then ((zT n x0.Ve 0 1000000).bind fun r5 => (some r5)) else (some false))) else (some false))) else (some false))) else (some false)))
theorem zKa (n : Nat) (x0 : zA) (r : Bool) (H : Yt n x0 = some r) : zJ Tryz.prog 105 [.val true (fR (zA.row x0))] [.val false [.lit (.bool r)]] [] := by
 refine cW Tryz.func105 (fun g d => sl [g 0,g 1] .ret) [.tmp 2] fun cx=>?_
 unfold Yt at H
 refine gA 2 2 2<|rA 2<|bE H fun r1 er1 H=> vA [.rd,.rd,.rd] (zU n x0.Tk 0 1000000 r1 er1)<|lA 1 ?_
 obtain ⟨h1,H⟩ | ⟨h1,H⟩ := bC H
 ·exact qL 66 2 [6] h1<|uA 20 4 0<|te (fF H)
 refine qL 66 2 [6] h1<|lA 2<|bE H fun r2 er2 H=> vA [.rd,.rd,.rd] (zU n x0.Pa 0 1000000 r2 er2)<|lA 2 ?_
 obtain ⟨h2,H⟩ | ⟨h2,H⟩ := bC H
 ·exact qL 2050 2 [11] h2<|uA 15 4 0<|te (fF H)
 refine qL 2050 2 [11] h2<|lA 2<|bE H fun r3 er3 H=> vA [.rd,.rd,.rd] (zU n x0.Wo 0 1000000 r3 er3)<|lA 2 ?_
 obtain ⟨h3,H⟩ | ⟨h3,H⟩ := bC H
 ·exact qL 65538 2 [16] h3<|uA 10 4 0<|te (fF H)
 refine qL 65538 2 [16] h3<|lA 2<|bE H fun r4 er4 H=> vA [.rd,.rd,.rd] (zU n x0.Dr 0 1000000 r4 er4)<|lA 2 ?_
 obtain ⟨h4,H⟩ | ⟨h4,H⟩ := bC H
 ·exact qL 2097154 2 [21] h4<|uA 5 4 0<|te (fF H)
 exact qL 2097154 2 [21] h4<|lA 2<|bE H fun r5 er5 H=> vA [.rd,.rd,.rd] (zU n x0.Ve 0 1000000 r5 er5)<|uA 2 4 0<|te (fJ [(false,[cB r5])] H)
def Qm (n : Nat) (x0 : zA) : Option (Bool) :=
  ((zT n x0.Id 1 99).bind fun r2 => (bif r2 then (bif (decide ((x0.Name.size : Int) ≤ 10)) then ((zT n (x0.Ps.length : Int) 1 6).bind fun r3 => (bif r3 then ((ZU n x0.F).bind fun r4 => (bif r4 then ((zl n x0.V (x0.Ps.length : Int)).bind fun r5 => (bif r5 then ((Yt n x0).bind fun r6 => (some r6)) else (some false))) else (some false))) else (some false))) else (some false)) else (some false)))
def z7 (n : Nat) : Nat → zA → Int → Option ((Unit) ⊕ (Bool))
  | 0,_,_ => none
  | mo7 + 1,x0,y1 => (bif (decide (y1 < (x0.Ps.length : Int))) then ((idx x0.Ps y1).bind fun v8 => ((qD n v8).bind fun r9 => (bif (!r9) then (some (Sum.inr false)) else (z7 n mo7 x0 (IntKind.wrap .i64 (y1 + 1)))))) else (some (Sum.inl ())))
def zV (n : Nat) (x0 : zA) : Option (Bool) :=
  ((z7 n n x0 0).bind fun o => match o with | .inl _ => (Qm n x0) | .inr r => some r)
theorem zEN (n : Nat) (x0 : zA) (r : Bool) (H : zV n x0 = some r) : zJ Tryz.prog 24 [.val true (fR (zA.row x0))] [.val false [.lit (.bool r)]] [] := by
 refine cW Tryz.func24 (fun g d => sl [g 0,sl [g 1] (.block 0 (.loop (sl [sl [g 2] (cn 8 .skip (.exit 0)),.block 1 (sl [g 4] (cn 17 (sl [g 5] .ret) .skip))] (g 3)))),g 6] .ret) [.tmp 2] fun cx=>?_
 unfold zV at H
 refine gA 2 2 2<|tS<|gA 1 10 2 ?_
 obtain ⟨o7,eo7,Ho7⟩ := bs H
 clear H
 refine Tr.mid (ι := Unit) (fun v => ⟨50,0,[sA 1 1 11 0],[(1,(fR (zA.row x0)))]⟩) (fun v => Qm n x0 = some r) ?_ ?_
 ·refine tB<|Tr.loop (ι := Nat × (Int)) (fun v => ⟨50,0,[sI 3 v.2,sA 1 1 11 0],[(1,(fR (zA.row x0)))]⟩) (fun v => z7 n v.1 x0 v.2 = some o7) (fun v => v.1) (n,0) eo7 (St.sub_of [3,1] [1] kr) ?_
  rintro ⟨mo7,y1⟩ H
  have H : z7 n mo7 x0 y1 = some o7 := H
  obtain _ | mo7 := mo7
  ·exact nN H
  rw [z7] at H
  refine tS<|rA 3<|kF x0.Ps Pt.row<|uA 1 266 2 ?_
  obtain ⟨h6,H⟩ | ⟨h6,H⟩ := bC H
  ·refine nA h6<|Tr.exit<|aJ ?_
   obtain rfl := si H
   have H := Ho7
   dsimp only at H
   exact jA () H [1] [1]
  refine tA h6<|tK<|tS<|tB<|rA 3<|bE H fun v8 ev8 H=> iA Pt.row ev8<|lA 1<|bE H fun r9 er9 H=> vA [.rd] (zNx n v8 r9 er9)<|uA 1 131082 2 ?_
  obtain ⟨h7,H⟩ | ⟨h7,H⟩ := bC H
  ·exact nA h7<|tK<|eA 3 10 2<|jB mo7 (wI (y1 + 1)) H [3,1] [1]
  refine tA h7<|gA 1 4 0<|te ?_
  obtain rfl := si H
  have H := Ho7
  dsimp only at H
  exact fF H
 rintro _ H
 have H : (Qm n x0) = some r := H
 unfold Qm at H
 refine rA 2<|bE H fun r2 er2 H=> vA [.rd,.rd,.rd] (zU n x0.Id 1 99 r2 er2)<|lA 1 ?_
 obtain ⟨h1,H⟩ | ⟨h1,H⟩ := bC H
 ·exact qL 2097154 2 [21] h1<|uA 29 4 0<|te (fF H)
 refine qL 2097154 2 [21] h1<|lA 6 ?_
 obtain ⟨h2,H⟩ | ⟨h2,H⟩ := bC H
 ·exact qL 134217730 2 [27] h2<|uA 23 4 0<|te (fF H)
 refine qL 134217730 2 [27] h2<|lA 2<|kF x0.Ps Pt.row<|bE H fun r3 er3 H=> vA [.rd,.rd,.rd] (zU n (x0.Ps.length : Int) 1 6 r3 er3)<|lA 2 ?_
 obtain ⟨h3,H⟩ | ⟨h3,H⟩ := bC H
 ·exact qL 8589934594 2 [33] h3<|uA 17 4 0<|te (fF H)
 refine qL 8589934594 2 [33] h3<|lA 2<|bE H fun r4 er4 H=> vA [.rd] (zGn n x0.F r4 er4)<|lA 2 ?_
 obtain ⟨h4,H⟩ | ⟨h4,H⟩ := bC H
 ·exact qL 274877906946 2 [38] h4<|uA 12 4 0<|te (fF H)
 refine qL 274877906946 2 [38] h4<|lA 4<|kF x0.Ps Pt.row<|bE H fun r5 er5 H=> vA [.rd,.rd] (zCB n x0.V (x0.Ps.length : Int) r5 er5)<|lA 2 ?_
 obtain ⟨h5,H⟩ | ⟨h5,H⟩ := bC H
 ·exact qL 70368744177666 2 [46] h5<|uA 4 4 0<|te (fF H)
 exact qL 70368744177666 2 [46] h5<|lA 1<|bE H fun r6 er6 H=> vA [.rd] (zKa n x0 r6 er6)<|uA 2 4 0<|te (fJ [(false,[cB r6])] H)
def Yj (n : Nat) (x0 : Net) : Option (Bool) :=
  ((zT n (x0.Bs.length : Int) 1 6).bind fun r2 => (some r2))
def Yl (n : Nat) (k : (Int → Option ((Unit) ⊕ (Bool)))) (y1 : Int) : Option ((Unit) ⊕ (Bool)) :=
  (k (IntKind.wrap .i64 (y1 + 1)))
def qk (n : Nat) : Nat → Net → Int → Int → Option ((Unit) ⊕ (Bool))
  | 0,_,_,_ => none
  | mo8 + 1,x0,y1,y7 => ((idx x0.Bs y1).bind fun v9 => (bif (decide (y7 < (v9.Ps.length : Int))) then ((idx x0.Bs y1).bind fun v10 => ((idx v10.Ps y7).bind fun v11 => (bif v11.Has then ((QK n x0 y1 y7).bind fun r12 => (bif (r12 == 0) then (some (Sum.inr false)) else (qk n mo8 x0 y1 (IntKind.wrap .i64 (y7 + 1))))) else (qk n mo8 x0 y1 (IntKind.wrap .i64 (y7 + 1)))))) else (some (Sum.inl ()))))
def Yk (n : Nat) (k : (Int → Option ((Unit) ⊕ (Bool)))) (x0 : Net) (y1 : Int) : Option ((Unit) ⊕ (Bool)) :=
  ((qk n n x0 y1 0).bind fun o => match o with | .inl _ => (Yl n k y1) | .inr r => some (Sum.inr r))
def qz (n : Nat) : Nat → Net → Int → Int → Option ((Unit) ⊕ (Bool))
  | 0,_,_,_ => none
  | mo13 + 1,x0,y1,y6 => (bif (decide (y6 < y1)) then ((idx x0.Bs y6).bind fun v14 => ((idx x0.Bs y1).bind fun v15 => (bif (v14.Id == v15.Id) then (some (Sum.inr false)) else (qz n mo13 x0 y1 (IntKind.wrap .i64 (y6 + 1)))))) else (some (Sum.inl ())))
def zr (n : Nat) : Nat → Net → Int → Option ((Unit) ⊕ (Bool))
  | 0,_,_ => none
  | mo3 + 1,x0,y1 => (bif (decide (y1 < (x0.Bs.length : Int))) then ((idx x0.Bs y1).bind fun v4 => ((zV n v4).bind fun r5 => (bif (!r5) then (some (Sum.inr false)) else ((qz n n x0 y1 0).bind fun o => match o with | .inl _ => (Yk n (fun v => zr n mo3 x0 v) x0 y1) | .inr r => some (Sum.inr r))))) else (some (Sum.inl ())))
def JM (n : Nat) (x0 : Net) : Option (Bool) :=
  ((zr n n x0 0).bind fun o => match o with | .inl _ => (Yj n x0) | .inr r => some r)
def zPL : Tab := ⟨13,[0,1,0,6,8,16,0,64,0,384,512,1024,2080],[0,1,0,6,8,16,0,64,0,384,512,1024,2080],[0,1,0,7,15,31,0,64,0,448,960,1984,4095]⟩
theorem zF1 : zg (rg Tryz.f125 9) zPL = true := kr
theorem zJk (n : Nat) (x0 : Net) (r : Bool) (H : JM n x0 = some r) : zJ Tryz.prog 125 [.val true (fR (Net.row x0))] [.val false [.lit (.bool r)]] [] := by
 refine cW Tryz.func125 (fun g d => sl [g 0,sl [g 1] (.block 0 (.loop (sl [sl [g 2] (cn 10 .skip (.exit 0)),.block 1 (sl [sl [g 4] (cn 19 (sl [g 5] .ret) .skip),sl [g 6] (.block 2 (.loop (sl [sl [g 7] (cn 22 .skip (.exit 2)),.block 3 (sl [d 9] (cn 37 (sl [g 10] .ret) .skip))] (g 8)))),g 11] (.block 4 (.loop (sl [sl [g 12] (cn 46 .skip (.exit 4)),.block 5 (sl [g 14] (cn 65 (sl [g 15] .ret) .skip))] (g 13)))))] (g 3)))),g 16] .ret) [.tmp 2] fun cx=>?_
 unfold JM at H
 refine gA 2 2 2<|tS<|gA 1 10 2 ?_
 obtain ⟨o3,eo3,Ho3⟩ := bs H
 clear H
 refine Tr.mid (ι := Unit) (fun v => ⟨70,0,[sA 1 1 3 0],[(1,(fR (Net.row x0)))]⟩) (fun v => Yj n x0 = some r) ?_ ?_
 ·refine tB<|Tr.loop (ι := Nat × (Int)) (fun v => ⟨70,0,[sI 3 v.2,sA 1 1 3 0],[(1,(fR (Net.row x0)))]⟩) (fun v => zr n v.1 x0 v.2 = some o3) (fun v => v.1) (n,0) eo3 (St.sub_of [3,1] [1] kr) ?_
  rintro ⟨mo3,y1⟩ H
  have H : zr n mo3 x0 y1 = some o3 := H
  obtain _ | mo3 := mo3
  ·exact nN H
  rw [zr] at H
  refine tS<|rA 3<|kF x0.Bs zA.row<|uA 1 1034 2 ?_
  obtain ⟨h1,H⟩ | ⟨h1,H⟩ := bC H
  ·refine nA h1<|Tr.exit<|aJ ?_
   obtain rfl := si H
   have H := Ho3
   dsimp only at H
   exact jA () H [1] [1]
  refine tA h1<|tK<|tS<|tB<|tS<|rA 3<|bE H fun v4 ev4 H=> iA zA.row ev4<|lA 1<|bE H fun r5 er5 H=> vA [.rd] (zEN n v4 r5 er5)<|uA 1 524298 2 ?_
  obtain ⟨h2,H⟩ | ⟨h2,H⟩ := bC H
  ·refine nA h2<|tK<|tS<|gA 1 26 2 ?_
   obtain ⟨o13,eo13,Ho13⟩ := bs H
   clear H
   refine Tr.mid (ι := Unit) (fun v => ⟨70,0,[sI 3 y1,sA 1 1 3 0],[(1,(fR (Net.row x0)))]⟩) (fun v => Yk n (fun v => zr n mo3 x0 v) x0 y1 = some o3) ?_ ?_
   ·refine tB<|Tr.loop (ι := Nat × (Int)) (fun v => ⟨70,0,[sI 4 v.2,sI 3 y1,sA 1 1 3 0],[(1,(fR (Net.row x0)))]⟩) (fun v => qz n v.1 x0 y1 v.2 = some o13) (fun v => v.1) (n,0) eo13 (St.sub_of [4,3,1] [1] kr) ?_
    rintro ⟨mo13,y6⟩ H
    have H : qz n mo13 x0 y1 y6 = some o13 := H
    obtain _ | mo13 := mo13
    ·exact nN H
    rw [qz] at H
    refine tS<|gA 3 4194330 2 ?_
    obtain ⟨h6,H⟩ | ⟨h6,H⟩ := bC H
    ·refine nA h6<|Tr.exit<|aJ ?_
     obtain rfl := si H
     have H := Ho13
     dsimp only at H
     exact jA () H [3,1] [1]
    refine tA h6<|tK<|tS<|tB<|bE H fun v14 ev14 H=> bE H fun v15 ev15 H=> Tr.draws mixed 13 kr ⟨70,0,[sB 37 (v14.Id == v15.Id),sI 4 y6,sI 3 y1,sA 1 1 3 0],[(1,(fR (Net.row x0)))]⟩ (fun cx=>?_) ?_
    ·exact mA zF1 [(0,[]),(1,[]),(2,[])] 10 [⟨[],49,25,26⟩] fun cx=>iN zF1 3 zA.row ev14 fun cx=>mA zF1 [(4,[]),(5,[]),(6,[]),(7,[]),(8,[])] 4 [⟨[],49,31,32⟩,⟨[],49,25,26⟩] fun cx=>iN zF1 9 zA.row ev15 fun cx=>mA zF1 [(10,[]),(11,[]),(12,[])] 0 [⟨[],49,31,32⟩,⟨[],49,25,26⟩] fun cx=>mE zF1 [37,4,3,1] [1]
    obtain ⟨h7,H⟩ | ⟨h7,H⟩ := bC H
    ·exact qT [37] h7<|nB_<|tK<|eA 3 26 2<|jB mo13 (wI (y6 + 1)) H [4,3,1] [1]
    refine qT [37] h7<|tB_<|gA 1 4 0<|te ?_
    obtain rfl := si H
    have H := Ho13
    dsimp only at H
    obtain rfl := si H
    have H := Ho3
    dsimp only at H
    exact fF H
   rintro _ H
   have H : (Yk n (fun v => zr n mo3 x0 v) x0 y1) = some o3 := H
   unfold Yk at H
   refine gA 1 42 2 ?_
   obtain ⟨o8,eo8,Ho8⟩ := bs H
   clear H
   refine Tr.mid (ι := Unit) (fun v => ⟨70,0,[sI 3 y1,sA 1 1 3 0],[(1,(fR (Net.row x0)))]⟩) (fun v => Yl n (fun v => zr n mo3 x0 v) y1 = some o3) ?_ ?_
   ·refine tB<|Tr.loop (ι := Nat × (Int)) (fun v => ⟨70,0,[sI 5 v.2,sI 3 y1,sA 1 1 3 0],[(1,(fR (Net.row x0)))]⟩) (fun v => qk n v.1 x0 y1 v.2 = some o8) (fun v => v.1) (n,0) eo8 (St.sub_of [5,3,1] [1] kr) ?_
    rintro ⟨mo8,y7⟩ H
    have H : qk n mo8 x0 y1 y7 = some o8 := H
    obtain _ | mo8 := mo8
    ·exact nN H
    rw [qk] at H
    refine tS<|rA 4<|bE H fun v9 ev9 H=> iA zA.row ev9<|lA 2<|kF v9.Ps Pt.row<|uA 1 70368744177706 2 ?_
    obtain ⟨h3,H⟩ | ⟨h3,H⟩ := bC H
    ·refine nA h3<|Tr.exit<|aJ ?_
     obtain rfl := si H
     have H := Ho8
     dsimp only at H
     exact jA () H [3,1] [1]
    refine tA h3<|tK<|tS<|tB<|rA 3<|bE H fun v10 ev10 H=> iA zA.row ev10<|lA 3<|bE H fun v11 ev11 H=> iA Pt.row ev11<|lA 3 ?_
    obtain ⟨h4,H⟩ | ⟨h4,H⟩ := bC H
    ·exact qL 0x80000000000002a 2 [59] h4<|uA 6 0x2000000000000002a 2<|nB_<|tK<|eA 3 42 2<|jB mo8 (wI (y7 + 1)) H [5,3,1] [1]
    refine qL 0x80000000000002a 2 [59] h4<|lA 3<|bE H fun r12 er12 H=> vA [.rd,.rd,.rd] (zAH n x0 y1 y7 r12 er12)<|uA 2 0x2000000000000002a 2 ?_
    obtain ⟨h5,H⟩ | ⟨h5,H⟩ := bC H
    ·exact nA h5<|tK<|eA 3 42 2<|jB mo8 (wI (y7 + 1)) H [5,3,1] [1]
    refine tA h5<|gA 1 4 0<|te ?_
    obtain rfl := si H
    have H := Ho8
    dsimp only at H
    obtain rfl := si H
    have H := Ho3
    dsimp only at H
    exact fF H
   rintro _ H
   have H : (Yl n (fun v => zr n mo3 x0 v) y1) = some o3 := H
   unfold Yl at H
   exact eA 3 10 2<|jB mo3 (wI (y1 + 1)) H [3,1] [1]
  refine tA h2<|gA 1 4 0<|te ?_
  obtain rfl := si H
  have H := Ho3
  dsimp only at H
  exact fF H
 rintro _ H
 have H : (Yj n x0) = some r := H
 unfold Yj at H
 exact rA 2<|kF x0.Bs zA.row<|bE H fun r2 er2 H=> vA [.rd,.rd,.rd] (zU n (x0.Bs.length : Int) 1 6 r2 er2)<|uA 1 4 0<|te (fJ [(false,[cB r2])] H)
def zAF (n : Nat) (x0 : Net) (x1 : Int) (x2 : Int) : Option (Bool) :=
  ((zT n x1 0 (IntKind.wrap .i64 ((x0.Bs.length : Int) - 1))).bind fun r1 => (bif r1 then ((idx x0.Bs x1).bind fun v2 => ((zT n x2 0 (IntKind.wrap .i64 ((v2.Ps.length : Int) - 1))).bind fun r3 => (bif r3 then ((QK n x0 x1 x2).bind fun r4 => (some (r4 == 1))) else (some false)))) else (some false)))
theorem zCC (n : Nat) (x0 : Net) (x1 : Int) (x2 : Int) (r : Bool) (H : zAF n x0 x1 x2 = some r) : zJ Tryz.prog 126 [.val true (fR (Net.row x0)),.val false [.lit (.int .i64 x1)],.val false [.lit (.int .i64 x2)]] [.val false [.lit (.bool r)]] [] := by
 refine cW Tryz.func126 (fun g d => sl [g 0,g 1] .ret) [.tmp 6] fun cx=>?_
 unfold zAF at H
 refine gA 2 14 8<|rA 3<|kF x0.Bs zA.row<|lA 1<|bE H fun r1 er1 H=> vA [.rd,.rd,.rd] (zU n x1 0 (wI ((x0.Bs.length : Int) - 1)) r1 er1)<|lA 1 ?_
 obtain ⟨h1,H⟩ | ⟨h1,H⟩ := bC H
 ·exact qL 8206 8 [13] h1<|uA 19 64 0<|te (fF H)
 refine qL 8206 8 [13] h1<|lA 4<|bE H fun v2 ev2 H=> iA zA.row ev2<|lA 2<|kF v2.Ps Pt.row<|lA 1<|bE H fun r3 er3 H=> vA [.rd,.rd,.rd] (zU n x2 0 (wI ((v2.Ps.length : Int) - 1)) r3 er3)<|lA 2 ?_
 obtain ⟨h2,H⟩ | ⟨h2,H⟩ := bC H
 ·exact qL 33554446 8 [25] h2<|uA 7 64 0<|te (fF H)
 exact qL 33554446 8 [25] h2<|lA 3<|bE H fun r4 er4 H=> vA [.rd,.rd,.rd] (zAH n x0 x1 x2 r4 er4)<|uA 3 64 0<|te (fJ [(false,[cB (r4 == 1)])] H)
def zCR (n : Nat) : Option (Bool) :=
  (some true)
def ZZ (n : Nat) : Nat → Net → Int → Option ((Unit) ⊕ (Bool))
  | 0,_,_ => none
  | mo4 + 1,x0,y3 => (bif (decide (y3 < (x0.Said.length : Int))) then ((idx x0.Said y3).bind fun v5 => ((zT n v5.Link 0 (IntKind.wrap .i64 ((x0.Ls.length : Int) - 1))).bind fun r6 => (bif (!r6) then (some (Sum.inr false)) else ((idx x0.Said y3).bind fun v7 => ((zp n v7.V).bind fun r8 => (bif (!r8) then (some (Sum.inr false)) else (ZZ n mo4 x0 (IntKind.wrap .i64 (y3 + 1))))))))) else (some (Sum.inl ())))
def Ja (n : Nat) (x0 : Net) : Option (Bool) :=
  ((ZZ n n x0 0).bind fun o => match o with | .inl _ => (zCR n) | .inr r => some r)
def ZK (n : Nat) : Nat → Net → Int → Option ((Unit) ⊕ (Bool))
  | 0,_,_ => none
  | mo9 + 1,x0,y2 => (bif (decide (y2 < (x0.Ls.length : Int))) then ((idx x0.Ls y2).bind fun v10 => (bif (v10.A == v10.B) then (some (Sum.inr false)) else ((zAF n x0 v10.A v10.P).bind fun r11 => (bif (!r11) then (some (Sum.inr false)) else ((zAF n x0 v10.B v10.Q).bind fun r12 => (bif (!r12) then (some (Sum.inr false)) else ((idx x0.Bs v10.A).bind fun v13 => ((idx v13.Ps v10.P).bind fun v14 => ((idx x0.Bs v10.B).bind fun v15 => ((idx v15.Ps v10.Q).bind fun v16 => (bif (!(v14.Up == v16.Up)) then (some (Sum.inr false)) else (ZK n mo9 x0 (IntKind.wrap .i64 (y2 + 1)))))))))))))) else (some (Sum.inl ())))
def ZV (n : Nat) (x0 : Net) : Option (Bool) :=
  ((JM n x0).bind fun r1 => (bif (!r1) then (some false) else (bif (decide ((x0.Ls.length : Int) > 9)) then (some false) else (bif (decide ((x0.Said.length : Int) > 40)) then (some false) else ((ZK n n x0 0).bind fun o => match o with | .inl _ => (Ja n x0) | .inr r => some r)))))
def zP5 : Tab := ⟨50,[0,1,0,4,10,16,32,32,160,32,544,1376,2080,4128,10240,16384,16384,81920,16384,278528,704512,1064960,2113536,5242880,8388608,25165824,8388608,75497472,176160768,276824064,545259520,8388608,2155872256,5377097728,8598323200,17188257792,8388608,68727865344,8388608,274886295552,687203155968,1099520016384,2199031644160,8388608,8796101410816,21990240944128,35184380477440,70368752566272,0x800800800000,281474985099264],[0,1,0,4,10,16,32,32,160,32,544,1376,2080,4128,8192,16384,16384,81920,16384,278528,704512,1064960,2113536,4194304,8388608,25165824,8388608,75497472,176160768,276824064,545259520,8388608,2155872256,5377097728,8598323200,17188257792,8388608,68727865344,8388608,274886295552,687203155968,1099520016384,2199031644160,8388608,8796101410816,21990240944128,35184380477440,70368752566272,0x800800800000,281474985099264],[0,1,0,4,15,31,63,63,191,63,575,2047,4095,8191,16383,32767,32767,98303,32767,294911,1048575,2097151,4194303,8388607,16777215,33554431,16777215,83886079,268435455,536870911,1073741823,16777215,2164260863,8589934591,17179869183,34359738367,16777215,68736253951,16777215,274894684159,0xf000ffffff,2130320556031,4329343811583,16777215,8796109799423,35115669389311,70300041478143,0x7ff000ffffff,0xffffffffffff,562949953421311]⟩
theorem ZN : zg (rg Tryz.f48 7) zP5 = true := kr
def zPj : Tab := ⟨22,[0,1,0,6,8,16,0,64,128,256,544,1024,3072,4096,12288,4096,53248,69632,135168,266240,528384,1052672],[0,1,0,6,8,16,0,64,128,256,544,1024,2048,4096,12288,4096,53248,69632,135168,266240,528384,1052672],[0,1,0,7,15,31,0,64,192,448,1023,2047,4095,8191,16383,8191,65535,131071,262143,524287,1048575,2097151]⟩
theorem QN : zg (rg Tryz.f48 12) zPj = true := kr
theorem zEp (n : Nat) (x0 : Net) (r : Bool) (H : ZV n x0 = some r) : zJ Tryz.prog 48 [.val true (fR (Net.row x0))] [.val false [.lit (.bool r)]] [] := by
 refine cW Tryz.func48 (fun g d => sl [g 0,sl [g 1] (cn 20 (sl [g 2] .ret) .skip),sl [g 3] (.block 0 (.loop (sl [sl [g 4] (cn 25 .skip (.exit 0)),.block 1 (sl [g 6,d 7] (cn 82 (sl [g 8] .ret) .skip))] (g 5)))),sl [g 9] (.block 2 (.loop (sl [sl [g 10] (cn 87 .skip (.exit 2)),.block 3 (sl [d 12] (cn 111 (sl [g 13] .ret) .skip))] (g 11)))),g 14] .ret) [.tmp 2] fun cx=>?_
 unfold ZV at H
 refine gA 2 2 2<|tS<|rA 1<|bE H fun r1 er1 H=> vA [.rd] (zJk n x0 r1 er1)<|lA 2 ?_
 obtain ⟨h1,H⟩ | ⟨h1,H⟩ := bC H
 ·refine qL 514 2 [9] h1<|lA 2<|kF x0.Ls Link.row<|lA 3 ?_
  obtain ⟨h2,H⟩ | ⟨h2,H⟩ := bC H
  ·refine qL 32770 2 [15] h2<|lA 2<|kF x0.Said Say.row<|uA 2 1048578 2 ?_
   obtain ⟨h3,H⟩ | ⟨h3,H⟩ := bC H
   ·refine nA h3<|tK<|tS<|gA 1 10 2 ?_
    obtain ⟨o9,eo9,Ho9⟩ := bs H
    clear H
    refine Tr.mid (ι := Unit) (fun v => ⟨112,0,[sA 1 1 3 0],[(1,(fR (Net.row x0)))]⟩) (fun v => Ja n x0 = some r) ?_ ?_
    ·refine tB<|Tr.loop (ι := Nat × (Int)) (fun v => ⟨112,0,[sI 3 v.2,sA 1 1 3 0],[(1,(fR (Net.row x0)))]⟩) (fun v => ZK n v.1 x0 v.2 = some o9) (fun v => v.1) (n,0) eo9 (St.sub_of [3,1] [1] kr) ?_
     rintro ⟨mo9,y2⟩ H
     have H : ZK n mo9 x0 y2 = some o9 := H
     obtain _ | mo9 := mo9
     ·exact nN H
     rw [ZK] at H
     refine tS<|rA 3<|kF x0.Ls Link.row<|uA 1 33554442 2 ?_
     obtain ⟨h7,H⟩ | ⟨h7,H⟩ := bC H
     ·refine nA h7<|Tr.exit<|aJ ?_
      obtain rfl := si H
      have H := Ho9
      dsimp only at H
      exact jA () H [1] [1]
     refine tA h7<|tK<|tS<|tB<|rA 3<|bE H fun v10 ev10 H=> iA Link.row ev10<|uA 3 26 18<|sT ⟨112,0,[sA 4 4 4 0,sI 3 y2,sA 1 1 3 0],[(4,(Link.row v10)),(1,(fR (Net.row x0)))]⟩ ?_
     cases h8 : (v10.A == v10.B)
     ·have H := q3 h8 H
      refine bE H fun r11 er11 H=> sT ⟨112,0,[sA 4 4 4 0,sI 3 y2,sA 1 1 3 0],[(4,(Link.row v10)),(1,(fR (Net.row x0)))]⟩ ?_
      cases h9 : (!r11)
      ·have H := q3 h9 H
       refine bE H fun r12 er12 H=> sT ⟨112,0,[sA 4 4 4 0,sI 3 y2,sA 1 1 3 0],[(4,(Link.row v10)),(1,(fR (Net.row x0)))]⟩ ?_
       cases h10 : (!r12)
       ·have H := q3 h10 H
        refine bE H fun v13 ev13 H=> bE H fun v14 ev14 H=> bE H fun v15 ev15 H=> bE H fun v16 ev16 H=> Tr.draws mixed 50 kr ⟨112,0,[sB 82 (!(v14.Up == v16.Up)),sI 3 y2,sA 1 1 3 0],[(1,(fR (Net.row x0)))]⟩ (fun cx=>?_) ?_
        ·refine mA ZN [(0,[]),(1,[11,20]),(2,[]),(3,[11,20]),(4,[]),(5,[])] 44 [⟨[11,20],3,35,36⟩,⟨[11,20],3,33,34⟩] fun cx=>qA 403726925850 18 [38] h8<|mA ZN [(6,[11,20]),(7,[]),(8,[11,20]),(9,[]),(10,[11,20])] 39 [⟨[11,20],3,42,43⟩,⟨[11,20],3,40,41⟩,⟨[11,20],53,1,39⟩,⟨[11,20],3,35,36⟩,⟨[11,20],3,33,34⟩] fun cx=>mC ZN 11<|vA [.rd,.rd,.rd] (zCC n x0 v10.A v10.P r11 er11)<|fA<|mA ZN [(12,[]),(13,[]),(14,[])] 35 [⟨[11,20],3,42,43⟩,⟨[11,20],3,40,41⟩,⟨[11,20],53,1,39⟩,⟨[11,20],3,35,36⟩,⟨[11,20],3,33,34⟩] fun cx=>qA 0x8f9e0000001a 18 [47] h9<|mA ZN [(15,[20]),(16,[]),(17,[20]),(18,[]),(19,[20])] 30 [⟨[20],3,51,52⟩,⟨[20],3,49,50⟩,⟨[20],53,1,48⟩,⟨[11,20],3,42,43⟩,⟨[11,20],3,40,41⟩,⟨[11,20],53,1,39⟩,⟨[11,20],3,35,36⟩,⟨[11,20],3,33,34⟩] fun cx=>mC ZN 20<|vA [.rd,.rd,.rd] (zCC n x0 v10.B v10.Q r12 er12)<|fA<|mA ZN [(21,[]),(22,[]),(23,[])] 26 [⟨[20],3,51,52⟩,⟨[20],3,49,50⟩,⟨[20],53,1,48⟩,⟨[11,20],3,42,43⟩,⟨[11,20],3,40,41⟩,⟨[11,20],53,1,39⟩,⟨[11,20],3,35,36⟩,⟨[11,20],3,33,34⟩] fun cx=>qA 80800489595207706 18 [56] h10<|mA ZN [(24,[]),(25,[]),(26,[]),(27,[])] 22 [⟨[],3,59,60⟩,⟨[],49,57,58⟩,⟨[20],3,51,52⟩,⟨[20],3,49,50⟩,⟨[20],53,1,48⟩,⟨[11,20],3,42,43⟩,⟨[11,20],3,40,41⟩,⟨[11,20],53,1,39⟩,⟨[11,20],3,35,36⟩,⟨[11,20],3,33,34⟩] fun cx=>iN ZN 28 zA.row ev13 fun cx=>mA ZN [(29,[]),(30,[]),(31,[]),(32,[])] 17 [⟨[],3,64,65⟩,⟨[],3,59,60⟩,⟨[],49,57,58⟩,⟨[20],3,51,52⟩,⟨[20],3,49,50⟩,⟨[20],53,1,48⟩,⟨[11,20],3,42,43⟩,⟨[11,20],3,40,41⟩,⟨[11,20],53,1,39⟩,⟨[11,20],3,35,36⟩,⟨[11,20],3,33,34⟩] fun cx=>?_
         exact iN ZN 33 Pt.row ev14 fun cx=>mA ZN [(34,[]),(35,[]),(36,[]),(37,[]),(38,[]),(39,[])] 10 [⟨[],3,71,72⟩,⟨[],49,69,70⟩,⟨[],3,64,65⟩,⟨[],3,59,60⟩,⟨[],49,57,58⟩,⟨[20],3,51,52⟩,⟨[20],3,49,50⟩,⟨[20],53,1,48⟩,⟨[11,20],3,42,43⟩,⟨[11,20],3,40,41⟩,⟨[11,20],53,1,39⟩,⟨[11,20],3,35,36⟩,⟨[11,20],3,33,34⟩] fun cx=>iN ZN 40 zA.row ev15 fun cx=>mA ZN [(41,[]),(42,[]),(43,[]),(44,[])] 5 [⟨[],3,76,77⟩,⟨[],3,71,72⟩,⟨[],49,69,70⟩,⟨[],3,64,65⟩,⟨[],3,59,60⟩,⟨[],49,57,58⟩,⟨[20],3,51,52⟩,⟨[20],3,49,50⟩,⟨[20],53,1,48⟩,⟨[11,20],3,42,43⟩,⟨[11,20],3,40,41⟩,⟨[11,20],53,1,39⟩,⟨[11,20],3,35,36⟩,⟨[11,20],3,33,34⟩] fun cx=>iN ZN 45 Pt.row ev16 fun cx=>mA ZN [(46,[]),(47,[]),(48,[]),(49,[])] 0 [⟨[],3,76,77⟩,⟨[],3,71,72⟩,⟨[],49,69,70⟩,⟨[],3,64,65⟩,⟨[],3,59,60⟩,⟨[],49,57,58⟩,⟨[20],3,51,52⟩,⟨[20],3,49,50⟩,⟨[20],53,1,48⟩,⟨[11,20],3,42,43⟩,⟨[11,20],3,40,41⟩,⟨[11,20],53,1,39⟩,⟨[11,20],3,35,36⟩,⟨[11,20],3,33,34⟩] fun cx=>mE ZN [82,3,1] [1]
        obtain ⟨h11,H⟩ | ⟨h11,H⟩ := bC H
        ·exact qT [82] h11<|nB_<|tK<|eA 3 10 2<|jB mo9 (wI (y2 + 1)) H [3,1] [1]
        refine qT [82] h11<|tB_<|gA 1 4 0<|te ?_
        obtain rfl := si H
        have H := Ho9
        dsimp only at H
        exact fF H
       have H := q7 h10 H
       refine Tr.draws mixed 50 kr ⟨112,0,[sB 82 true,sI 3 y2,sA 1 1 3 0],[(1,(fR (Net.row x0)))]⟩ (fun cx=>?_) ?_
       ·exact mA ZN [(0,[]),(1,[11,20]),(2,[]),(3,[11,20]),(4,[]),(5,[])] 44 [⟨[11,20],3,35,36⟩,⟨[11,20],3,33,34⟩] fun cx=>qA 403726925850 18 [38] h8<|mA ZN [(6,[11,20]),(7,[]),(8,[11,20]),(9,[]),(10,[11,20])] 39 [⟨[11,20],3,42,43⟩,⟨[11,20],3,40,41⟩,⟨[11,20],53,1,39⟩,⟨[11,20],3,35,36⟩,⟨[11,20],3,33,34⟩] fun cx=>mC ZN 11<|vA [.rd,.rd,.rd] (zCC n x0 v10.A v10.P r11 er11)<|fA<|mA ZN [(12,[]),(13,[]),(14,[])] 35 [⟨[11,20],3,42,43⟩,⟨[11,20],3,40,41⟩,⟨[11,20],53,1,39⟩,⟨[11,20],3,35,36⟩,⟨[11,20],3,33,34⟩] fun cx=>qA 0x8f9e0000001a 18 [47] h9<|mA ZN [(15,[20]),(16,[]),(17,[20]),(18,[]),(19,[20])] 30 [⟨[20],3,51,52⟩,⟨[20],3,49,50⟩,⟨[20],53,1,48⟩,⟨[11,20],3,42,43⟩,⟨[11,20],3,40,41⟩,⟨[11,20],53,1,39⟩,⟨[11,20],3,35,36⟩,⟨[11,20],3,33,34⟩] fun cx=>mC ZN 20<|vA [.rd,.rd,.rd] (zCC n x0 v10.B v10.Q r12 er12)<|fA<|mA ZN [(21,[]),(22,[]),(23,[])] 26 [⟨[20],3,51,52⟩,⟨[20],3,49,50⟩,⟨[20],53,1,48⟩,⟨[11,20],3,42,43⟩,⟨[11,20],3,40,41⟩,⟨[11,20],53,1,39⟩,⟨[11,20],3,35,36⟩,⟨[11,20],3,33,34⟩] fun cx=>qA 80800489595207706 18 [56] h10<|mA ZN [(24,[]),(25,[]),(26,[]),(27,[]),(28,[]),(29,[]),(30,[]),(31,[]),(32,[]),(33,[]),(34,[]),(35,[]),(36,[]),(37,[]),(38,[]),(39,[]),(40,[]),(41,[]),(42,[]),(43,[]),(44,[]),(45,[]),(46,[]),(47,[]),(48,[]),(49,[])] 0 [⟨[20],3,51,52⟩,⟨[20],3,49,50⟩,⟨[20],53,1,48⟩,⟨[11,20],3,42,43⟩,⟨[11,20],3,40,41⟩,⟨[11,20],53,1,39⟩,⟨[11,20],3,35,36⟩,⟨[11,20],3,33,34⟩] fun cx=>mE ZN [82,3,1] [1]
       refine tB_<|gA 1 4 0<|te ?_
       obtain rfl := si H
       have H := Ho9
       dsimp only at H
       exact fF H
      have H := q7 h9 H
      refine Tr.draws mixed 50 kr ⟨112,0,[sB 82 true,sI 3 y2,sA 1 1 3 0],[(1,(fR (Net.row x0)))]⟩ (fun cx=>?_) ?_
      ·exact mA ZN [(0,[]),(1,[11]),(2,[]),(3,[11]),(4,[]),(5,[])] 44 [⟨[11],3,35,36⟩,⟨[11],3,33,34⟩] fun cx=>qA 403726925850 18 [38] h8<|mA ZN [(6,[11]),(7,[]),(8,[11]),(9,[]),(10,[11])] 39 [⟨[11],3,42,43⟩,⟨[11],3,40,41⟩,⟨[11],53,1,39⟩,⟨[11],3,35,36⟩,⟨[11],3,33,34⟩] fun cx=>mC ZN 11<|vA [.rd,.rd,.rd] (zCC n x0 v10.A v10.P r11 er11)<|fA<|mA ZN [(12,[]),(13,[]),(14,[])] 35 [⟨[11],3,42,43⟩,⟨[11],3,40,41⟩,⟨[11],53,1,39⟩,⟨[11],3,35,36⟩,⟨[11],3,33,34⟩] fun cx=>qA 0x8f9e0000001a 18 [47] h9<|mA ZN [(15,[]),(16,[]),(17,[]),(18,[]),(19,[]),(20,[]),(21,[]),(22,[]),(23,[]),(24,[]),(25,[]),(26,[]),(27,[]),(28,[]),(29,[]),(30,[]),(31,[]),(32,[]),(33,[]),(34,[]),(35,[]),(36,[]),(37,[]),(38,[]),(39,[]),(40,[]),(41,[]),(42,[]),(43,[]),(44,[]),(45,[]),(46,[]),(47,[]),(48,[]),(49,[])] 0 [⟨[11],3,42,43⟩,⟨[11],3,40,41⟩,⟨[11],53,1,39⟩,⟨[11],3,35,36⟩,⟨[11],3,33,34⟩] fun cx=>mE ZN [82,3,1] [1]
      refine tB_<|gA 1 4 0<|te ?_
      obtain rfl := si H
      have H := Ho9
      dsimp only at H
      exact fF H
     have H := q7 h8 H
     refine Tr.draws mixed 50 kr ⟨112,0,[sB 82 true,sI 3 y2,sA 1 1 3 0],[(1,(fR (Net.row x0)))]⟩ (fun cx=>?_) ?_
     ·exact mA ZN [(0,[]),(1,[]),(2,[]),(3,[]),(4,[]),(5,[])] 44 [⟨[],3,35,36⟩,⟨[],3,33,34⟩] fun cx=>qA 403726925850 18 [38] h8<|mA ZN [(6,[]),(7,[]),(8,[]),(9,[]),(10,[]),(11,[]),(12,[]),(13,[]),(14,[]),(15,[]),(16,[]),(17,[]),(18,[]),(19,[]),(20,[]),(21,[]),(22,[]),(23,[]),(24,[]),(25,[]),(26,[]),(27,[]),(28,[]),(29,[]),(30,[]),(31,[]),(32,[]),(33,[]),(34,[]),(35,[]),(36,[]),(37,[]),(38,[]),(39,[]),(40,[]),(41,[]),(42,[]),(43,[]),(44,[]),(45,[]),(46,[]),(47,[]),(48,[]),(49,[])] 0 [⟨[],3,35,36⟩,⟨[],3,33,34⟩] fun cx=>mE ZN [82,3,1] [1]
     refine tB_<|gA 1 4 0<|te ?_
     obtain rfl := si H
     have H := Ho9
     dsimp only at H
     exact fF H
    rintro _ H
    have H : (Ja n x0) = some r := H
    unfold Ja at H
    refine tS<|gA 1 34 2 ?_
    obtain ⟨o4,eo4,Ho4⟩ := bs H
    clear H
    refine Tr.mid (ι := Unit) (fun v => ⟨112,0,[],[]⟩) (fun v => zCR n = some r) ?_ ?_
    ·refine tB<|Tr.loop (ι := Nat × (Int)) (fun v => ⟨112,0,[sI 5 v.2,sA 1 1 3 0],[(1,(fR (Net.row x0)))]⟩) (fun v => ZZ n v.1 x0 v.2 = some o4) (fun v => v.1) (n,0) eo4 (St.sub_of [5,1] [1] kr) ?_
     rintro ⟨mo4,y3⟩ H
     have H : ZZ n mo4 x0 y3 = some o4 := H
     obtain _ | mo4 := mo4
     ·exact nN H
     rw [ZZ] at H
     refine tS<|rA 3<|kF x0.Said Say.row<|uA 1 0x8000000000000000000022 2 ?_
     obtain ⟨h4,H⟩ | ⟨h4,H⟩ := bC H
     ·refine nA h4<|Tr.exit<|aJ ?_
      obtain rfl := si H
      have H := Ho4
      dsimp only at H
      exact jA () H [] []
     refine tA h4<|tK<|tS<|tB<|bE H fun v5 ev5 H=> bE H fun r6 er6 H=> sT ⟨112,0,[sB 87 (decide (y3 < (x0.Said.length : Int))),sI 5 y3,sA 1 1 3 0],[(1,(fR (Net.row x0)))]⟩ ?_
     cases h5 : (!r6)
     ·have H := q3 h5 H
      refine bE H fun v7 ev7 H=> bE H fun r8 er8 H=> Tr.draws mixed 22 kr ⟨112,0,[sB 111 (!r8),sI 5 y3,sA 1 1 3 0],[(1,(fR (Net.row x0)))]⟩ (fun cx=>?_) ?_
      ·exact mA QN [(0,[]),(1,[10,19]),(2,[])] 19 [⟨[10,19],51,90,91⟩] fun cx=>iN QN 3 Say.row ev5 fun cx=>mA QN [(4,[]),(5,[]),(6,[]),(7,[10,19])] 14 [⟨[10,19],50,96,97⟩,⟨[10,19],51,90,91⟩] fun cx=>kFN QN 8 x0.Ls Link.row fun cx=>mA QN [(9,[])] 12 [⟨[10,19],50,96,97⟩,⟨[10,19],51,90,91⟩] fun cx=>mC QN 10<|vA [.rd,.rd,.rd] (zU n v5.Link 0 (wI ((x0.Ls.length : Int) - 1)) r6 er6)<|fA<|mA QN [(11,[]),(12,[])] 9 [⟨[10,19],50,96,97⟩,⟨[10,19],51,90,91⟩] fun cx=>qA 0x430c0000000000000000000022 2 [102] h5<|mA QN [(13,[]),(14,[19]),(15,[])] 6 [⟨[19],51,103,104⟩,⟨[10,19],50,96,97⟩,⟨[10,19],51,90,91⟩] fun cx=>iN QN 16 Say.row ev7 fun cx=>mA QN [(17,[]),(18,[])] 3 [⟨[19],51,103,104⟩,⟨[10,19],50,96,97⟩,⟨[10,19],51,90,91⟩] fun cx=>mC QN 19<|vA [.rd] (zC1 n v7.V r8 er8)<|fA<|mA QN [(20,[]),(21,[])] 0 [⟨[19],51,103,104⟩,⟨[10,19],50,96,97⟩,⟨[10,19],51,90,91⟩] fun cx=>mE QN [111,5,1] [1]
      obtain ⟨h6,H⟩ | ⟨h6,H⟩ := bC H
      ·exact qT [111] h6<|nB_<|tK<|eA 3 34 2<|jB mo4 (wI (y3 + 1)) H [5,1] [1]
      refine qT [111] h6<|tB_<|gA 1 4 0<|te ?_
      obtain rfl := si H
      have H := Ho4
      dsimp only at H
      exact fF H
     have H := q7 h5 H
     refine Tr.draws mixed 22 kr ⟨112,0,[sB 111 true,sI 5 y3,sA 1 1 3 0],[(1,(fR (Net.row x0)))]⟩ (fun cx=>?_) ?_
     ·exact mA QN [(0,[]),(1,[10]),(2,[])] 19 [⟨[10],51,90,91⟩] fun cx=>iN QN 3 Say.row ev5 fun cx=>mA QN [(4,[]),(5,[]),(6,[]),(7,[10])] 14 [⟨[10],50,96,97⟩,⟨[10],51,90,91⟩] fun cx=>kFN QN 8 x0.Ls Link.row fun cx=>mA QN [(9,[])] 12 [⟨[10],50,96,97⟩,⟨[10],51,90,91⟩] fun cx=>mC QN 10<|vA [.rd,.rd,.rd] (zU n v5.Link 0 (wI ((x0.Ls.length : Int) - 1)) r6 er6)<|fA<|mA QN [(11,[]),(12,[])] 9 [⟨[10],50,96,97⟩,⟨[10],51,90,91⟩] fun cx=>qA 0x430c0000000000000000000022 2 [102] h5<|mA QN [(13,[]),(14,[]),(15,[]),(16,[]),(17,[]),(18,[]),(19,[]),(20,[]),(21,[])] 0 [⟨[10],50,96,97⟩,⟨[10],51,90,91⟩] fun cx=>mE QN [111,5,1] [1]
     refine tB_<|gA 1 4 0<|te ?_
     obtain rfl := si H
     have H := Ho4
     dsimp only at H
     exact fF H
    rintro _ H
    have H : (zCR n) = some r := H
    unfold zCR at H
    exact gA 1 4 0<|te (fT H)
   exact tA h3<|gA 1 4 0<|te (fF H)
  exact qL 32770 2 [15] h2<|uA 5 1048578 2<|tB_<|gA 1 4 0<|te (fF H)
 exact qL 514 2 [9] h1<|uA 11 1048578 2<|tB_<|gA 1 4 0<|te (fF H)
def qv (n : Nat) (x0 : (List zB)) : Option ((List zB)) :=
  (bif (decide (([] : List zB).length + x0.length ≤ 268435456)) then (some (([] : List zB) ++ x0)) else none)
theorem YZ (n : Nat) (x0 : (List zB)) (r : (List zB)) (H : qv n x0 = some r) : zJ Tryz.prog 156 [.val false [.sl false 5 (CV.frzEs (x0.map zB.row))]] [.val false [.sl true 5 (r.map zB.row)]] [] := by
 refine cW Tryz.func156 (fun g d => sl [g 0,g 1] .ret) [.tmp 2] fun cx=>?_
 unfold qv at H
 exact gA 1 1 0<|rA 2<|gE H fun hg1 H=> pD zB.row hg1<|LAt.moveU (T := lk tab) (ty := 25) (x := (.tmp 5)) (d := 2) (g := none) false [cL 5 (([] : List zB) ++ x0) zB.row] kr kr kr kr kr<|dA 4 0<|te (fJ [(false,[cL 5 (([] : List zB) ++ x0) zB.row])] H)
def Zd (n : Nat) (x0 : zD) : Option (zD) :=
  (bif (decide (([] : List zC).length + x0.Rows.length ≤ 268435456)) then (bif (decide (([] : List Int).length + x0.Pv.length ≤ 268435456)) then (some (⟨(([] : List zC) ++ x0.Rows),(([] : List Int) ++ x0.Pv)⟩ : zD)) else none) else none)
theorem Ya (n : Nat) (x0 : zD) (r : zD) (H : Zd n x0 = some r) : zJ Tryz.prog 157 [.val true (fR (zD.row x0))] [.val true (zD.row r)] [] := by
 refine cW Tryz.func157 (fun g d => sl [g 0,d 1] .ret) [.cell 2 29] fun cx=>?_
 unfold Zd at H
 refine gA 2 6 6<|gE H fun hg1 H=> gE H fun hg2 H=> Tr.draws mixed 10 kr ⟨12,0,[sA 2 2 2 0],[(2,[cL 3 (([] : List zC) ++ x0.Rows) zC.row,cL 1 (([] : List Int) ++ x0.Pv) intRow])]⟩ (fun cx=>?_) ?_
 ·refine aA [(1,[]),(2,[3,7,8,9]),(5,[]),(6,[7,8,9])] 6 [⟨[7,8,9],27,8,9⟩,⟨[3,7,8,9],26,4,5⟩] fun cx=>AT.big2 tOk 0 4 kr (And.intro kr ?_) (And.intro kr ?_)
  ·refine lA 1<|fA<|AT.big2 tOk 3 4 kr (And.intro kr ?_) (And.intro kr ?_)
   ·exact pD zC.row hg1<|fA<|bA 4<|lA 1<|fA<|bA 7<|pD intRow hg2<|fA<|bA 8<|lA 1<|fA<|bA 9<|lA 1<|fA<|eE [2] [2]
   ·exact lA 1<|fA<|bA 3<|pD zC.row hg1<|fA<|bA 7<|pD intRow hg2<|fA<|bA 8<|lA 1<|fA<|bA 9<|lA 1<|fA<|eE [2] [2]
  ·exact lA 1<|fA<|bA 0<|lA 1<|fA<|bA 3<|pD zC.row hg1<|fA<|bA 7<|pD intRow hg2<|fA<|bA 8<|lA 1<|fA<|bA 9<|lA 1<|fA<|eE [2] [2]
 exact te (fJ [(true,[cL 3 (([] : List zC) ++ x0.Rows) zC.row,cL 1 (([] : List Int) ++ x0.Pv) intRow])] H)
def Qg (n : Nat) (x0 : zA) : Option (zA) :=
  (bif (decide (([] : List Pt).length + x0.Ps.length ≤ 268435456)) then ((qv n x0.F).bind fun r2 => ((Zd n x0.V).bind fun r3 => (some (⟨x0.Id,x0.Name,(([] : List Pt) ++ x0.Ps),r2,r3,x0.Tk,x0.Pa,x0.Wo,x0.Dr,x0.Ve⟩ : zA)))) else none)
theorem zC3 (n : Nat) (x0 : zA) (r : zA) (H : Qg n x0 = some r) : zJ Tryz.prog 81 [.val true (fR (zA.row x0))] [.val true (zA.row r)] [] := by
 refine cW Tryz.func81 (fun g d => sl [g 0,g 1,g 2,g 3,g 4,g 5] .ret) [.cell 2 31] fun cx=>?_
 unfold Qg at H
 exact gA 2 6 6<|gA 3 14 14<|rA 3<|gE H fun hg1 H=> pD Pt.row hg1<|uA 2 14 14<|rA 2<|bE H fun r2 er2 H=> vA [.rd] (YZ n x0.F r2 er2)<|uA 2 14 14<|rA 2<|bE H fun r3 er3 H=> vA [.rd] (Ya n x0.V r3 er3)<|uA 2 12 12<|gA 2 4 4<|te (fJ [(true,[cI x0.Id,cS x0.Name,cL 8 (([] : List Pt) ++ x0.Ps) Pt.row,cL 5 r2 zB.row,cL 3 r3.Rows zC.row,cL 1 r3.Pv intRow,cI x0.Tk,cI x0.Pa,cI x0.Wo,cI x0.Dr,cI x0.Ve])] H)
def Y6 (n : Nat) (x0 : zA) (x1 : Int) : Option (Bool) :=
  ((zV n x0).bind fun r1 => (bif r1 then ((zT n x1 0 (IntKind.wrap .i64 ((x0.Ps.length : Int) - 1))).bind fun r2 => (some r2)) else (some false)))
theorem zGv (n : Nat) (x0 : zA) (x1 : Int) (r : Bool) (H : Y6 n x0 x1 = some r) : zJ Tryz.prog 90 [.val true (fR (zA.row x0)),.val false [.lit (.int .i64 x1)]] [.val false [.lit (.bool r)]] [] := by
 refine cW Tryz.func90 (fun g d => sl [g 0,g 1] .ret) [.tmp 4] fun cx=>?_
 unfold Y6 at H
 refine gA 2 6 4<|rA 1<|bE H fun r1 er1 H=> vA [.rd] (zEN n x0 r1 er1)<|lA 1 ?_
 obtain ⟨h1,H⟩ | ⟨h1,H⟩ := bC H
 ·exact qL 134 4 [7] h1<|uA 8 16 0<|te (fF H)
 exact qL 134 4 [7] h1<|lA 3<|kF x0.Ps Pt.row<|lA 1<|bE H fun r2 er2 H=> vA [.rd,.rd,.rd] (zU n x1 0 (wI ((x0.Ps.length : Int) - 1)) r2 er2)<|uA 2 16 0<|te (fJ [(false,[cB r2])] H)
def JK (n : Nat) (x0 : Int) : Option (Int) :=
  (bif (decide (x0 ≥ 1000000)) then (some x0) else (some (IntKind.wrap .i64 (x0 + 1))))
theorem zIP (n : Nat) (x0 : Int) (r : Int) (H : JK n x0 = some r) : zJ Tryz.prog 95 [.val false [.lit (.int .i64 x0)]] [.val false [.lit (.int .i64 r)]] [] := by
 refine cW Tryz.func95 (fun g d => sl [g 0,sl [g 1] (cn 4 (sl [g 2] .ret) .skip),g 3] .ret) [.tmp 2] fun cx=>?_
 unfold JK at H
 refine gA 1 1 0<|tS<|gA 2 17 0 ?_
 obtain ⟨h1,H⟩ | ⟨h1,H⟩ := bC H
 ·exact nA h1<|tK<|gA 3 4 0<|te (fJ [(false,[cI (wI (x0 + 1))])] H)
 exact tA h1<|gA 2 4 0<|te (fJ [(false,[cI x0])] H)
def YL (n : Nat) (x0 : Vec) (x1 : Int) : Option (Vec × Bool) :=
  ((zp n x0).bind fun r1 => (bif (!r1) then (some (x0,false)) else ((zT n x1 1 1000).bind fun r2 => (bif (!r2) then (some (x0,false)) else ((zp n (⟨x0.Root,(IntKind.wrap .i64 (x0.Co + x1)),(IntKind.wrap .i64 (x0.Hops + 1)),x0.Bridge,x0.Port⟩ : Vec)).bind fun r3 => (bif (!r3) then (some (x0,false)) else (some ((⟨x0.Root,(IntKind.wrap .i64 (x0.Co + x1)),(IntKind.wrap .i64 (x0.Hops + 1)),x0.Bridge,x0.Port⟩ : Vec),true))))))))
theorem zHb (n : Nat) (x0 : Vec) (x1 : Int) (r : Vec × Bool) (H : YL n x0 x1 = some r) : zJ Tryz.prog 178 [.val true (fR (Vec.row x0)),.val false [.lit (.int .i64 x1)]] [.val true (Vec.row r.1),.val false [.lit (.bool r.2)]] [] := by
 refine cW Tryz.func178 (fun g d => sl [g 0,sl [g 1] (cn 14 (sl [g 2] .ret) .skip),g 3,g 4,g 5,sl [g 6] (cn 28 (sl [g 7] .ret) .skip),g 8] .ret) [.cell 4 33,.tmp 5] fun cx=>?_
 unfold YL at H
 refine gA 3 22 20<|tS<|rA 1<|bE H fun r1 er1 H=> vA [.rd] (zC1 n x0 r1 er1)<|lA 2 ?_
 obtain ⟨h1,H⟩ | ⟨h1,H⟩ := bC H
 ·refine qL 1046 20 [10] h1<|lA 1<|bE H fun r2 er2 H=> vA [.rd,.rd,.rd] (zU n x1 1 1000 r2 er2)<|uA 2 16406 20 ?_
  obtain ⟨h2,H⟩ | ⟨h2,H⟩ := bC H
  ·refine nA h2<|tK<|gA 3 86 84<|gA 6 84 84<|gA 5 84 84<|tS<|rA 1<|bE H fun r3 er3 H=> vA [.rd] (zC1 n (⟨x0.Root,(wI (x0.Co + x1)),(wI (x0.Hops + 1)),x0.Bridge,x0.Port⟩ : Vec) r3 er3)<|uA 1 268435540 84 ?_
   obtain ⟨h3,H⟩ | ⟨h3,H⟩ := bC H
   ·exact nA h3<|tK<|gA 3 48 16<|te (fJ [(true,[cI x0.Root,cI (wI (x0.Co + x1)),cI (wI (x0.Hops + 1)),cI x0.Bridge,cI x0.Port]),(false,[cB true])] H)
   exact tA h3<|gA 3 48 16<|te (fJ [(true,(Vec.row x0)),(false,[cB false])] H)
  exact tA h2<|gA 3 48 16<|te (fJ [(true,(Vec.row x0)),(false,[cB false])] H)
 exact qL 1046 20 [10] h1<|uA 4 16406 20<|tB_<|gA 3 48 16<|te (fJ [(true,(Vec.row x0)),(false,[cB false])] H)
def Yw (n : Nat) (x0 : Vec) (x1 : Vec) : Option (Bool) :=
  (bif (x0.Root != x1.Root) then (some (decide (x0.Root < x1.Root))) else (bif (x0.Co != x1.Co) then (some (decide (x0.Co < x1.Co))) else (bif (x0.Bridge != x1.Bridge) then (some (decide (x0.Bridge < x1.Bridge))) else (some (decide (x0.Port < x1.Port))))))
theorem zHa (n : Nat) (x0 : Vec) (x1 : Vec) (r : Bool) (H : Yw n x0 x1 = some r) : zJ Tryz.prog 179 [.val true (fR (Vec.row x0)),.val true (fR (Vec.row x1))] [.val false [.lit (.bool r)]] [] := by
 refine cW Tryz.func179 (fun g d => sl [g 0,.block 0 (sl [g 1] (cn 5 (sl [g 2] .ret) (sl [g 3] (cn 16 (sl [g 4] .ret) (sl [g 5] (cn 27 (sl [g 6] .ret) .skip)))))),g 7] .ret) [.tmp 4] fun cx=>?_
 unfold Yw at H
 refine gA 3 12 12<|tS<|tB<|gA 6 44 12 ?_
 obtain ⟨h1,H⟩ | ⟨h1,H⟩ := bC H
 ·refine nA h1<|gA 6 65548 12 ?_
  obtain ⟨h2,H⟩ | ⟨h2,H⟩ := bC H
  ·refine nA h2<|gA 6 134217740 12 ?_
   obtain ⟨h3,H⟩ | ⟨h3,H⟩ := bC H
   ·exact nA h3<|tK<|gA 6 16 0<|te (fJ [(false,[cB (decide (x0.Port < x1.Port))])] H)
   exact tA h3<|gA 6 16 0<|te (fJ [(false,[cB (decide (x0.Bridge < x1.Bridge))])] H)
  exact tA h2<|gA 6 16 0<|te (fJ [(false,[cB (decide (x0.Co < x1.Co))])] H)
 exact tA h1<|gA 6 16 0<|te (fJ [(false,[cB (decide (x0.Root < x1.Root))])] H)
def zBA (n : Nat) (x0 : Int) (y11 : Int) (y12 : Int) (y13 : Int) (y14 : Int) : Option (Vec × Int) :=
  (some ((⟨y12,y13,y14,x0,0⟩ : Vec),y11))
def Z6 (n : Nat) (k : (Int × Int × Int × Int × Int × Int × Int × Int × Int × Int → Option ((Int × Int × Int × Int) ⊕ (Vec × Int)))) (r20 : Vec × Bool) (y1 : Int) (y10 : Int) (y2 : Int) (y3 : Int) (y4 : Int) (y5 : Int) (y6 : Int) (y7 : Int) (y8 : Int) (y9 : Int) (y21 : Bool) (y22 : Bool) (y23 : Bool) (y24 : Bool) (y25 : Bool) (y26 : Bool) (y27 : Bool) : Option ((Int × Int × Int × Int) ⊕ (Vec × Int)) :=
  (bif y21 then (k ((IntKind.wrap .i64 (y1 + 1)),y1,r20.1.Root,r20.1.Co,r20.1.Hops,r20.1.Bridge,r20.1.Port,r20.1.Root,r20.1.Co,r20.1.Hops)) else (k ((IntKind.wrap .i64 (y1 + 1)),y2,y3,y4,y5,y6,y7,y8,y9,y10)))
def qF (n : Nat) : Nat → Int → (List Pt) → Int → Int → Int → Int → Int → Int → Int → Int → Int → Int → Option ((Int × Int × Int × Int) ⊕ (Vec × Int))
  | 0,_,_,_,_,_,_,_,_,_,_,_,_ => none
  | mo15 + 1,x0,x1,y1,y2,y3,y4,y5,y6,y7,y8,y9,y10 => (bif (decide (y1 < (x1.length : Int))) then ((idx x1 y1).bind fun v16 => (bif (!v16.Up) then (qF n mo15 x0 x1 (IntKind.wrap .i64 (y1 + 1)) y2 y3 y4 y5 y6 y7 y8 y9 y10) else ((idx x1 y1).bind fun v17 => (bif (!v17.Has) then (qF n mo15 x0 x1 (IntKind.wrap .i64 (y1 + 1)) y2 y3 y4 y5 y6 y7 y8 y9 y10) else ((idx x1 y1).bind fun v18 => ((idx x1 y1).bind fun v19 => ((YL n v18.Hd v19.Co).bind fun r20 => (bif r20.2 then (bif (decide (r20.1.Root < x0)) then (bif (decide (y2 < 0)) then (Z6 n (fun v => qF n mo15 x0 x1 v.1 v.2.1 v.2.2.1 v.2.2.2.1 v.2.2.2.2.1 v.2.2.2.2.2.1 v.2.2.2.2.2.2.1 v.2.2.2.2.2.2.2.1 v.2.2.2.2.2.2.2.2.1 v.2.2.2.2.2.2.2.2.2) r20 y1 y10 y2 y3 y4 y5 y6 y7 y8 y9 true true true true true true true) else ((Yw n r20.1 (⟨y3,y4,y5,y6,y7⟩ : Vec)).bind fun r28 => (Z6 n (fun v => qF n mo15 x0 x1 v.1 v.2.1 v.2.2.1 v.2.2.2.1 v.2.2.2.2.1 v.2.2.2.2.2.1 v.2.2.2.2.2.2.1 v.2.2.2.2.2.2.2.1 v.2.2.2.2.2.2.2.2.1 v.2.2.2.2.2.2.2.2.2) r20 y1 y10 y2 y3 y4 y5 y6 y7 y8 y9 r28 true true true true true true))) else (Z6 n (fun v => qF n mo15 x0 x1 v.1 v.2.1 v.2.2.1 v.2.2.2.1 v.2.2.2.2.1 v.2.2.2.2.2.1 v.2.2.2.2.2.2.1 v.2.2.2.2.2.2.2.1 v.2.2.2.2.2.2.2.2.1 v.2.2.2.2.2.2.2.2.2) r20 y1 y10 y2 y3 y4 y5 y6 y7 y8 y9 false false false true true true true)) else (Z6 n (fun v => qF n mo15 x0 x1 v.1 v.2.1 v.2.2.1 v.2.2.2.1 v.2.2.2.2.1 v.2.2.2.2.2.1 v.2.2.2.2.2.2.1 v.2.2.2.2.2.2.2.1 v.2.2.2.2.2.2.2.2.1 v.2.2.2.2.2.2.2.2.2) r20 y1 y10 y2 y3 y4 y5 y6 y7 y8 y9 false false false false false false false))))))))) else (some (Sum.inl (y2,y8,y9,y10))))
def Qc (n : Nat) (x0 : Int) (x1 : (List Pt)) : Option (Vec × Int) :=
  ((qF n n x0 x1 0 (-1) 0 0 0 0 0 x0 0 0).bind fun o => match o with | .inl (y11,y12,y13,y14) => (zBA n x0 y11 y12 y13 y14) | .inr r => some r)
def zPM : Tab := ⟨17,[0,0,3,4,8,0,0,96,128,256,528,1024,2048,2048,0,24575,65535],[0,0,3,4,8,0,0,96,128,256,528,1024,2048,2048,0,20480,8192],[0,0,3,7,15,0,0,96,224,480,1023,2047,4095,4095,0,24575,65535]⟩
theorem Qr : zg (rg Tryz.f138 8) zPM = true := kr
theorem zHX (n : Nat) (x0 : Int) (x1 : (List Pt)) (r : Vec × Int) (H : Qc n x0 x1 = some r) : zJ Tryz.prog 138 [.val false [.lit (.int .i64 x0)],.val false [.sl false 8 (CV.frzEs (x1.map Pt.row))]] [.val true (Vec.row r.1),.val false [.lit (.int .i64 r.2)]] [] := by
 refine cW Tryz.func138 (fun g d => sl [g 0,g 1,g 2,g 3,sl [g 4] (.block 0 (.loop (sl [sl [g 5] (cn 19 .skip (.exit 0)),.block 1 (sl [sl [g 7] (cn 35 (.exit 1) .skip),d 8,g 9] (cn 65 (sl [g 10,g 11] (g 12)) .skip))] (g 6)))),g 13] .ret) [.cell 4 33,.tmp 5] fun cx=>?_
 unfold Qc at H
 refine gA 2 51 16<|gA 5 115 80<|gA 3 243 208<|gA 1 499 208<|tS<|gA 1 1011 208 ?_
 obtain ⟨o15,eo15,Ho15⟩ := bs H
 clear H
 refine Tr.mid (ι := Int × Int × Int × Int) (fun v => ⟨78,0,[sI 8 v.1,sA 6 6 5 0,sI 5 0,sA 4 4 5 0],[(6,[cI v.2.1,cI v.2.2.1,cI v.2.2.2,cI x0,cI 0]),(4,[cI 0,cI 0,cI 0,cI 0,cI 0])]⟩) (fun v => zBA n x0 v.1 v.2.1 v.2.2.1 v.2.2.2 = some r) ?_ ?_
 ·refine tB<|Tr.loop (ι := Nat × (Int × Int × Int × Int × Int × Int × Int × Int × Int × Int)) (fun v => ⟨78,0,[sI 9 v.2.1,sI 8 v.2.2.1,sA 7 7 5 0,sA 6 6 5 0,sI 5 0,sA 4 4 5 0,sI 0 x0,sC 1 (cF 8 x1 Pt.row)],[(7,[cI v.2.2.2.1,cI v.2.2.2.2.1,cI v.2.2.2.2.2.1,cI v.2.2.2.2.2.2.1,cI v.2.2.2.2.2.2.2.1]),(6,[cI v.2.2.2.2.2.2.2.2.1,cI v.2.2.2.2.2.2.2.2.2.1,cI v.2.2.2.2.2.2.2.2.2.2,cI x0,cI 0]),(4,[cI 0,cI 0,cI 0,cI 0,cI 0])]⟩) (fun v => qF n v.1 x0 x1 v.2.1 v.2.2.1 v.2.2.2.1 v.2.2.2.2.1 v.2.2.2.2.2.1 v.2.2.2.2.2.2.1 v.2.2.2.2.2.2.2.1 v.2.2.2.2.2.2.2.2.1 v.2.2.2.2.2.2.2.2.2.1 v.2.2.2.2.2.2.2.2.2.2 = some o15) (fun v => v.1) (n,(0,(-1),0,0,0,0,0,x0,0,0)) eo15 (St.sub_of [9,8,7,6,5,4,0,1] [7,6,4] kr) ?_
  rintro ⟨mo15,y1,y2,y3,y4,y5,y6,y7,y8,y9,y10⟩ H
  have H : qF n mo15 x0 x1 y1 y2 y3 y4 y5 y6 y7 y8 y9 y10 = some o15 := H
  obtain _ | mo15 := mo15
  ·exact nN H
  rw [qF] at H
  refine tS<|rA 2<|kF x1 Pt.row<|uA 1 984051 208 ?_
  obtain ⟨h1,H⟩ | ⟨h1,H⟩ := bC H
  ·refine nA h1<|Tr.exit<|aJ ?_
   obtain rfl := si H
   have H := Ho15
   dsimp only at H
   exact jA (y2,y8,y9,y10) H [8,6,5,4] [6,4]
  refine tA h1<|tK<|tS<|tB<|tS<|rA 2<|bE H fun v16 ev16 H=> iA Pt.row ev16<|lA 4 ?_
  obtain ⟨h2,H⟩ | ⟨h2,H⟩ := bC H
  ·refine qL 533660659 208 [28,27] h2<|lA 2<|bE H fun v17 ev17 H=> iA Pt.row ev17<|uA 4 68716266483 208 ?_
   obtain ⟨h3,H⟩ | ⟨h3,H⟩ := bC H
   ·refine nA h3<|tK<|bE H fun v18 ev18 H=> bE H fun v19 ev19 H=> bE H fun r20 er20 H=> Tr.draws mixed 17 kr ⟨78,0,[sB 11 r20.2,sA 10 10 5 0,sB 49 r20.2,(36,.tup [(true,[.dead,.dead,.dead,.dead,.dead]),(false,[.dead])]),sV 48 (Vec.row r20.1),sI 46 v19.Co,(45,.fad (((Pt.row v19).drop 1))),(44,.fad ((Pt.row v19))),sI 43 y1,sC 42 (cF 8 x1 Pt.row),sV 41 ((Pt.row v18).drop 3),(40,.fad (((Pt.row v18).drop 3))),(39,.fad ((Pt.row v18))),sI 38 y1,sC 37 (cF 8 x1 Pt.row),sB 35 (!v17.Has),sB 34 (!v17.Has),sB 33 v17.Has,(32,.fad (((Pt.row v17).drop 2))),(31,.fad ((Pt.row v17))),sI 30 y1,sC 29 (cF 8 x1 Pt.row),sB 28 false,sB 27 false,sB 26 v16.Up,(25,.fad ((Pt.row v16))),(24,.fad ((Pt.row v16))),sI 23 y1,sC 22 (cF 8 x1 Pt.row),sB 19 (decide (y1 < (x1.length : Int))),sI 18 (x1.length : Int),sC 17 (cF 8 x1 Pt.row),sI 16 y1,sI 9 y1,sI 8 y2,sA 7 7 5 0,sA 6 6 5 0,sI 5 0,sA 4 4 5 0,sI 0 x0,sC 1 (cF 8 x1 Pt.row)],[(10,(Vec.row r20.1)),(7,[cI y3,cI y4,cI y5,cI y6,cI y7]),(6,[cI y8,cI y9,cI y10,cI x0,cI 0]),(4,[cI 0,cI 0,cI 0,cI 0,cI 0])]⟩ (fun cx=>?_) ?_
    ·refine mA Qr [(0,[]),(1,[])] 15 [] fun cx=>iN Qr 2 Pt.row ev18 fun cx=>mA Qr [(3,[]),(4,[]),(5,[]),(6,[])] 10 [] fun cx=>iN Qr 7 Pt.row ev19 fun cx=>mA Qr [(8,[]),(9,[])] 7 [] fun cx=>mB2 tOk Qr 10 14 kr (And.intro kr ?_) (And.intro kr ?_)
     ·refine vA [.rd,.rd] (zHb n v18.Hd v19.Co r20 er20)<|fA<|AT.movT tOk 11 (ty := 167) (t := 47) (d := 36) (g := none) [(true,(Vec.row r20.1)),(false,[cB r20.2])] _ kr (oM Qr kr) (dM Qr kr) (.inl rfl) kr kr kr kr rfl (fun cx=>?_)
      exact mA Qr [(12,[]),(13,[])] 3 [] fun cx=>mC Qr 14<|lA 1<|fA<|mC Qr 15<|lA 1<|fA<|mA Qr [(16,[])] 0 [] fun cx=>mE Qr [11,10,49,36,48,46,45,44,43,42,41,40,39,38,37,35,34,33,32,31,30,29,28,27,26,25,24,23,22,19,18,17,16,9,8,7,6,5,4,0,1] [10,7,6,4]
     ·refine lA 1<|fA<|mC Qr 10<|vA [.rd,.rd] (zHb n v18.Hd v19.Co r20 er20)<|fA<|AT.movT tOk 11 (ty := 167) (t := 47) (d := 36) (g := none) [(true,(Vec.row r20.1)),(false,[cB r20.2])] _ kr (oM Qr kr) (dM Qr kr) (.inl rfl) kr kr kr kr rfl (fun cx=>?_)
      exact mA Qr [(12,[]),(13,[])] 2 [] fun cx=>mC Qr 15<|lA 1<|fA<|mA Qr [(16,[])] 0 [] fun cx=>mE Qr [11,10,49,36,48,46,45,44,43,42,41,40,39,38,37,35,34,33,32,31,30,29,28,27,26,25,24,23,22,19,18,17,16,9,8,7,6,5,4,0,1] [10,7,6,4]
    refine tS<|Tr.mid (ι := Bool × Bool × Bool × Bool × Bool × Bool × Bool) (fun v => ⟨78,0,[sB 65 v.1,sB 57 v.2.1,sB 56 v.2.2.1,sB 51 v.2.2.2.1,sB 50 v.2.2.2.2.1,sB 11 v.2.2.2.2.2.1,sA 10 10 5 0,sB 49 v.2.2.2.2.2.2,(36,.tup [(true,[.dead,.dead,.dead,.dead,.dead]),(false,[.dead])]),sV 48 (Vec.row r20.1),sI 46 v19.Co,(45,.fad (((Pt.row v19).drop 1))),(44,.fad ((Pt.row v19))),sI 43 y1,sC 42 (cF 8 x1 Pt.row),sV 41 ((Pt.row v18).drop 3),(40,.fad (((Pt.row v18).drop 3))),(39,.fad ((Pt.row v18))),sI 38 y1,sC 37 (cF 8 x1 Pt.row),sB 35 false,sB 34 false,sB 33 v17.Has,(32,.fad (((Pt.row v17).drop 2))),(31,.fad ((Pt.row v17))),sI 30 y1,sC 29 (cF 8 x1 Pt.row),sB 28 false,sB 27 false,sB 26 v16.Up,(25,.fad ((Pt.row v16))),(24,.fad ((Pt.row v16))),sI 23 y1,sC 22 (cF 8 x1 Pt.row),sB 19 true,sI 18 (x1.length : Int),sC 17 (cF 8 x1 Pt.row),sI 16 y1,sI 9 y1,sI 8 y2,sA 7 7 5 0,sA 6 6 5 0,sI 5 0,sA 4 4 5 0,sI 0 x0,sC 1 (cF 8 x1 Pt.row)],[(10,(Vec.row r20.1)),(7,[cI y3,cI y4,cI y5,cI y6,cI y7]),(6,[cI y8,cI y9,cI y10,cI x0,cI 0]),(4,[cI 0,cI 0,cI 0,cI 0,cI 0])]⟩) (fun v => Z6 n (fun v => qF n mo15 x0 x1 v.1 v.2.1 v.2.2.1 v.2.2.2.1 v.2.2.2.2.1 v.2.2.2.2.2.1 v.2.2.2.2.2.2.1 v.2.2.2.2.2.2.2.1 v.2.2.2.2.2.2.2.2.1 v.2.2.2.2.2.2.2.2.2) r20 y1 y10 y2 y3 y4 y5 y6 y7 y8 y9 v.1 v.2.1 v.2.2.1 v.2.2.2.1 v.2.2.2.2.1 v.2.2.2.2.2.1 v.2.2.2.2.2.2 = some o15) ?_ ?_
    ·refine Tr.at<|lA 2 ?_
     obtain ⟨h5,H⟩ | ⟨h5,H⟩ := bC H
     ·refine qL 0xf7fffffcf0ff3 1232 [51,50,11,49] h5<|uA 14 0x3ffff7fffffcf0ff3 1232<|sB' 0x3ffff7fffffcf0ff3 1232 ⟨78,0,[sB 65 false,(64,.tup []),(63,.tup []),(62,.tup []),(61,.tup []),(60,.tup []),(59,.tup []),(58,.tup []),sB 57 false,sB 56 false,(55,.tup []),(54,.tup []),(53,.tup []),(52,.tup []),sB 51 false,sB 50 false,sB 11 false,sA 10 10 5 0,sB 49 false,(36,.tup [(true,[.dead,.dead,.dead,.dead,.dead]),(false,[.dead])]),sV 48 (Vec.row r20.1),sI 46 v19.Co,(45,.fad (((Pt.row v19).drop 1))),(44,.fad ((Pt.row v19))),sI 43 y1,sC 42 (cF 8 x1 Pt.row),sV 41 ((Pt.row v18).drop 3),(40,.fad (((Pt.row v18).drop 3))),(39,.fad ((Pt.row v18))),sI 38 y1,sC 37 (cF 8 x1 Pt.row),sB 35 (!v17.Has),sB 34 (!v17.Has),sB 33 v17.Has,(32,.fad (((Pt.row v17).drop 2))),(31,.fad ((Pt.row v17))),sI 30 y1,sC 29 (cF 8 x1 Pt.row),sB 28 false,sB 27 false,sB 26 v16.Up,(25,.fad ((Pt.row v16))),(24,.fad ((Pt.row v16))),sI 23 y1,sC 22 (cF 8 x1 Pt.row),sB 19 (decide (y1 < (x1.length : Int))),sI 18 (x1.length : Int),sC 17 (cF 8 x1 Pt.row),sI 16 y1,sI 9 y1,sI 8 y2,sA 7 7 5 0,sA 6 6 5 0,sI 5 0,sA 4 4 5 0,sI 0 x0,sC 1 (cF 8 x1 Pt.row)],[(10,(Vec.row r20.1)),(7,[cI y3,cI y4,cI y5,cI y6,cI y7]),(6,[cI y8,cI y9,cI y10,cI x0,cI 0]),(4,[cI 0,cI 0,cI 0,cI 0,cI 0])]⟩ ?_
      rw [h1]
      rw [h3]
      exact jA (false,false,false,false,false,false,false) H [65,57,56,51,50,11,10,49,36,48,46,45,44,43,42,41,40,39,38,37,35,34,33,32,31,30,29,28,27,26,25,24,23,22,19,18,17,16,9,8,7,6,5,4,0,1] [10,7,6,4]
     refine qL 0xf7fffffcf0ff3 1232 [51,50,11,49] h5<|lA 6 ?_
     obtain ⟨h6,H⟩ | ⟨h6,H⟩ := bC H
     ·refine qL 0x3ff7fffffcf0ff3 1232 [57,56,55] h6<|uA 8 0x3ffff7fffffcf0ff3 1232<|sB' 0x3ffff7fffffcf0ff3 1232 ⟨78,0,[sB 65 false,(64,.tup []),(63,.tup []),(62,.tup []),(61,.tup []),(60,.tup []),(59,.tup []),(58,.tup []),sB 57 false,sB 56 false,sB 55 false,sI 54 x0,sI 53 r20.1.Root,sA 52 10 5 0,sB 51 true,sB 50 true,sB 11 true,sA 10 10 5 0,sB 49 true,(36,.tup [(true,[.dead,.dead,.dead,.dead,.dead]),(false,[.dead])]),sV 48 (Vec.row r20.1),sI 46 v19.Co,(45,.fad (((Pt.row v19).drop 1))),(44,.fad ((Pt.row v19))),sI 43 y1,sC 42 (cF 8 x1 Pt.row),sV 41 ((Pt.row v18).drop 3),(40,.fad (((Pt.row v18).drop 3))),(39,.fad ((Pt.row v18))),sI 38 y1,sC 37 (cF 8 x1 Pt.row),sB 35 (!v17.Has),sB 34 (!v17.Has),sB 33 v17.Has,(32,.fad (((Pt.row v17).drop 2))),(31,.fad ((Pt.row v17))),sI 30 y1,sC 29 (cF 8 x1 Pt.row),sB 28 false,sB 27 false,sB 26 v16.Up,(25,.fad ((Pt.row v16))),(24,.fad ((Pt.row v16))),sI 23 y1,sC 22 (cF 8 x1 Pt.row),sB 19 (decide (y1 < (x1.length : Int))),sI 18 (x1.length : Int),sC 17 (cF 8 x1 Pt.row),sI 16 y1,sI 9 y1,sI 8 y2,sA 7 7 5 0,sA 6 6 5 0,sI 5 0,sA 4 4 5 0,sI 0 x0,sC 1 (cF 8 x1 Pt.row)],[(10,(Vec.row r20.1)),(7,[cI y3,cI y4,cI y5,cI y6,cI y7]),(6,[cI y8,cI y9,cI y10,cI x0,cI 0]),(4,[cI 0,cI 0,cI 0,cI 0,cI 0])]⟩ ?_
      rw [h1]
      rw [h3]
      exact jA (false,false,false,true,true,true,true) H [65,57,56,51,50,11,10,49,36,48,46,45,44,43,42,41,40,39,38,37,35,34,33,32,31,30,29,28,27,26,25,24,23,22,19,18,17,16,9,8,7,6,5,4,0,1] [10,7,6,4]
     refine qL 0x3ff7fffffcf0ff3 1232 [57,56,55] h6<|lA 3 ?_
     obtain ⟨h7,H⟩ | ⟨h7,H⟩ := bC H
     ·refine qL 0x1fff7fffffcf0ff3 1232 [60,59] h7<|lA 2<|bE H fun r28 er28 H=> vA [.rd,.rd] (zHa n r20.1 (⟨y3,y4,y5,y6,y7⟩ : Vec) r28 er28)<|uA 2 0x3ffff7fffffcf0ff3 1232<|sB' 0x3ffff7fffffcf0ff3 1232 ⟨78,0,[sB 65 r28,sB 64 r28,sB 63 r28,sV 62 [cI y3,cI y4,cI y5,cI y6,cI y7],sV 61 (Vec.row r20.1),sB 60 false,sB 59 false,sI 58 y2,sB 57 true,sB 56 true,sB 55 true,sI 54 x0,sI 53 r20.1.Root,sA 52 10 5 0,sB 51 true,sB 50 true,sB 11 true,sA 10 10 5 0,sB 49 true,(36,.tup [(true,[.dead,.dead,.dead,.dead,.dead]),(false,[.dead])]),sV 48 (Vec.row r20.1),sI 46 v19.Co,(45,.fad (((Pt.row v19).drop 1))),(44,.fad ((Pt.row v19))),sI 43 y1,sC 42 (cF 8 x1 Pt.row),sV 41 ((Pt.row v18).drop 3),(40,.fad (((Pt.row v18).drop 3))),(39,.fad ((Pt.row v18))),sI 38 y1,sC 37 (cF 8 x1 Pt.row),sB 35 (!v17.Has),sB 34 (!v17.Has),sB 33 v17.Has,(32,.fad (((Pt.row v17).drop 2))),(31,.fad ((Pt.row v17))),sI 30 y1,sC 29 (cF 8 x1 Pt.row),sB 28 false,sB 27 false,sB 26 v16.Up,(25,.fad ((Pt.row v16))),(24,.fad ((Pt.row v16))),sI 23 y1,sC 22 (cF 8 x1 Pt.row),sB 19 (decide (y1 < (x1.length : Int))),sI 18 (x1.length : Int),sC 17 (cF 8 x1 Pt.row),sI 16 y1,sI 9 y1,sI 8 y2,sA 7 7 5 0,sA 6 6 5 0,sI 5 0,sA 4 4 5 0,sI 0 x0,sC 1 (cF 8 x1 Pt.row)],[(10,(Vec.row r20.1)),(7,[cI y3,cI y4,cI y5,cI y6,cI y7]),(6,[cI y8,cI y9,cI y10,cI x0,cI 0]),(4,[cI 0,cI 0,cI 0,cI 0,cI 0])]⟩ ?_
      rw [h1]
      rw [h3]
      exact jA (r28,true,true,true,true,true,true) H [65,57,56,51,50,11,10,49,36,48,46,45,44,43,42,41,40,39,38,37,35,34,33,32,31,30,29,28,27,26,25,24,23,22,19,18,17,16,9,8,7,6,5,4,0,1] [10,7,6,4]
     refine qL 0x1fff7fffffcf0ff3 1232 [60,59] h7<|uA 5 0x3ffff7fffffcf0ff3 1232<|sB' 0x3ffff7fffffcf0ff3 1232 ⟨78,0,[sB 65 true,sB 64 true,(63,.tup []),(62,.tup []),(61,.tup []),sB 60 true,sB 59 true,sI 58 y2,sB 57 true,sB 56 true,sB 55 true,sI 54 x0,sI 53 r20.1.Root,sA 52 10 5 0,sB 51 true,sB 50 true,sB 11 true,sA 10 10 5 0,sB 49 true,(36,.tup [(true,[.dead,.dead,.dead,.dead,.dead]),(false,[.dead])]),sV 48 (Vec.row r20.1),sI 46 v19.Co,(45,.fad (((Pt.row v19).drop 1))),(44,.fad ((Pt.row v19))),sI 43 y1,sC 42 (cF 8 x1 Pt.row),sV 41 ((Pt.row v18).drop 3),(40,.fad (((Pt.row v18).drop 3))),(39,.fad ((Pt.row v18))),sI 38 y1,sC 37 (cF 8 x1 Pt.row),sB 35 (!v17.Has),sB 34 (!v17.Has),sB 33 v17.Has,(32,.fad (((Pt.row v17).drop 2))),(31,.fad ((Pt.row v17))),sI 30 y1,sC 29 (cF 8 x1 Pt.row),sB 28 false,sB 27 false,sB 26 v16.Up,(25,.fad ((Pt.row v16))),(24,.fad ((Pt.row v16))),sI 23 y1,sC 22 (cF 8 x1 Pt.row),sB 19 (decide (y1 < (x1.length : Int))),sI 18 (x1.length : Int),sC 17 (cF 8 x1 Pt.row),sI 16 y1,sI 9 y1,sI 8 y2,sA 7 7 5 0,sA 6 6 5 0,sI 5 0,sA 4 4 5 0,sI 0 x0,sC 1 (cF 8 x1 Pt.row)],[(10,(Vec.row r20.1)),(7,[cI y3,cI y4,cI y5,cI y6,cI y7]),(6,[cI y8,cI y9,cI y10,cI x0,cI 0]),(4,[cI 0,cI 0,cI 0,cI 0,cI 0])]⟩ ?_
     rw [h1]
     rw [h3]
     exact jA (true,true,true,true,true,true,true) H [65,57,56,51,50,11,10,49,36,48,46,45,44,43,42,41,40,39,38,37,35,34,33,32,31,30,29,28,27,26,25,24,23,22,19,18,17,16,9,8,7,6,5,4,0,1] [10,7,6,4]
    rintro ⟨y21,y22,y23,y24,y25,y26,y27⟩ H
    have H : (Z6 n (fun v => qF n mo15 x0 x1 v.1 v.2.1 v.2.2.1 v.2.2.2.1 v.2.2.2.2.1 v.2.2.2.2.2.1 v.2.2.2.2.2.2.1 v.2.2.2.2.2.2.2.1 v.2.2.2.2.2.2.2.2.1 v.2.2.2.2.2.2.2.2.2) r20 y1 y10 y2 y3 y4 y5 y6 y7 y8 y9 y21 y22 y23 y24 y25 y26 y27) = some o15 := H
    unfold Z6 at H
    cases h4 : y21
    ·have H := q3 h4 H
     exact nB_<|tK<|eA 3 0x2030f7fffffff0ff3 1232<|jB mo15 ((wI (y1 + 1)),y2,y3,y4,y5,y6,y7,y8,y9,y10) H [9,8,7,6,5,4,0,1] [7,6,4]
    have H := q7 h4 H
    exact tB_<|gA 2 0x6030f7fffffcf0ff3 1232<|gA 2 0xe030f7fffffcf0ff3 1232<|eA 9 0xffe030f7fffffcf0ff3 1232<|eA 3 0xffe030f7fffffff0ff3 1232<|jB mo15 ((wI (y1 + 1)),y1,r20.1.Root,r20.1.Co,r20.1.Hops,r20.1.Bridge,r20.1.Port,r20.1.Root,r20.1.Co,r20.1.Hops) H [9,8,7,6,5,4,0,1] [7,6,4]
   exact tA h3<|Tr.exit<|aJ<|eA 3 68719412211 208<|jB mo15 ((wI (y1 + 1)),y2,y3,y4,y5,y6,y7,y8,y9,y10) H [9,8,7,6,5,4,0,1] [7,6,4]
  exact qL 533660659 208 [28,27] h2<|uA 7 68716266483 208<|tB_<|Tr.exit<|aJ<|eA 3 68719412211 208<|jB mo15 ((wI (y1 + 1)),y2,y3,y4,y5,y6,y7,y8,y9,y10) H [9,8,7,6,5,4,0,1] [7,6,4]
 rintro ⟨y11,y12,y13,y14⟩ H
 have H : (zBA n x0 y11 y12 y13 y14) = some r := H
 unfold zBA at H
 exact gA 4 48 16<|te (fJ [(true,[cI y12,cI y13,cI y14,cI x0,cI 0]),(false,[cI y11])] H)
def qj (n : Nat) (x0 : Int) (x1 : (List Pt)) (x2 : Int) : Option (Vec) :=
  ((Qc n x0 x1).bind fun r1 => (some (⟨r1.1.Root,r1.1.Co,r1.1.Hops,r1.1.Bridge,x2⟩ : Vec)))
theorem zFx (n : Nat) (x0 : Int) (x1 : (List Pt)) (x2 : Int) (r : Vec) (H : qj n x0 x1 x2 = some r) : zJ Tryz.prog 180 [.val false [.lit (.int .i64 x0)],.val false [.sl false 8 (CV.frzEs (x1.map Pt.row))],.val false [.lit (.int .i64 x2)]] [.val true (Vec.row r)] [] := by
 refine cW Tryz.func180 (fun g d => sl [g 0,g 1,g 2,g 3] .ret) [.cell 6 33] fun cx=>?_
 unfold qj at H
 exact gA 1 71 64<|rA 2<|bE H fun r1 er1 H=> vA [.rd,.rd] (zHX n x0 x1 r1 er1)<|LAt.movT tOk (ty := 135) (t := 12) (d := 9) (g := none) [(true,(Vec.row r1.1)),(false,[cI r1.2])] _ kr (.inl rfl) kr kr kr kr rfl<|uA 5 196 192<|gA 3 192 192<|gA 2 64 64<|te (fJ [(true,[cI r1.1.Root,cI r1.1.Co,cI r1.1.Hops,cI r1.1.Bridge,cI x2])] H)
def JI (n : Nat) (x0 : Int) (x1 : (List Pt)) (x2 : Int) : Option (Int) :=
  ((zT n x2 0 (IntKind.wrap .i64 ((x1.length : Int) - 1))).bind fun r1 => (bif (!r1) then (some 4) else ((idx x1 x2).bind fun v2 => (bif (!v2.Up) then (some 4) else ((Qc n x0 x1).bind fun r3 => (bif (r3.2 == x2) then (some 1) else ((idx x1 x2).bind fun v4 => (bif (!v4.Has) then (some 2) else ((qj n x0 x1 x2).bind fun r5 => ((idx x1 x2).bind fun v6 => ((Yw n r5 v6.Hd).bind fun r7 => (bif r7 then (some 2) else (some 3)))))))))))))
def zPe : Tab := ⟨19,[0,0,3,4,8,16,32,64,64,64,960,64,64,6208,8256,16448,33856,65600,196608],[0,0,3,4,8,16,32,64,64,64,960,64,64,6208,8256,16448,33856,65600,131072],[0,0,3,7,15,31,63,127,127,127,1023,127,127,6271,14463,30847,65535,131071,262143]⟩
theorem JC : zg (rg Tryz.f189 6) zPe = true := kr
theorem zMU (n : Nat) (x0 : Int) (x1 : (List Pt)) (x2 : Int) (r : Int) (H : JI n x0 x1 x2 = some r) : zJ Tryz.prog 189 [.val false [.lit (.int .i64 x0)],.val false [.sl false 8 (CV.frzEs (x1.map Pt.row))],.val false [.lit (.int .i64 x2)]] [.val false [.lit (.int .i64 r)]] [] := by
 refine cW Tryz.func189 (fun g d => sl [g 0,sl [g 1] (cn 22 (sl [g 2] .ret) .skip),g 3,.block 0 (sl [g 4] (cn 29 (sl [g 5] .ret) (sl [d 6] (cn 33 (sl [g 7] .ret) .skip)))),g 8] .ret) [.tmp 6] fun cx=>?_
 unfold JI at H
 refine gA 1 7 0<|tS<|rA 2<|kF x1 Pt.row<|lA 1<|bE H fun r1 er1 H=> vA [.rd,.rd,.rd] (zU n x2 0 (wI ((x1.length : Int) - 1)) r1 er1)<|lA 2 ?_
 obtain ⟨h1,H⟩ | ⟨h1,H⟩ := bC H
 ·refine qL 32775 0 [15] h1<|lA 2<|bE H fun v2 ev2 H=> iA Pt.row ev2<|uA 4 4194311 0 ?_
  obtain ⟨h2,H⟩ | ⟨h2,H⟩ := bC H
  ·refine nA h2<|tK<|rA 2<|bE H fun r3 er3 H=> vA [.rd,.rd] (zHX n x0 x1 r3 er3)<|LAt.movT tOk (ty := 135) (t := 26) (d := 23) (g := none) [(true,(Vec.row r3.1)),(false,[cI r3.2])] _ kr (.inl rfl) kr kr kr kr rfl<|uA 5 263 0<|tS<|tB<|gA 4 536870919 0 ?_
   obtain ⟨h3,H⟩ | ⟨h3,H⟩ := bC H
   ·refine nA h3<|bE H fun v4 ev4 H=> sT ⟨52,0,[sB 29 (r3.2 == x2),sI 0 x0,sC 1 (cF 8 x1 Pt.row),sI 2 x2],[]⟩ ?_
    cases h4 : (!v4.Has)
    ·have H := q3 h4 H
     refine bE H fun r5 er5 H=> bE H fun v6 ev6 H=> bE H fun r7 er7 H=> Tr.draws mixed 19 kr ⟨52,0,[sB 33 r7],[]⟩ (fun cx=>?_) ?_
     ·exact mA JC [(0,[]),(1,[])] 17 [] fun cx=>iN JC 2 Pt.row ev4 fun cx=>mA JC [(3,[]),(4,[]),(5,[]),(6,[])] 12 [] fun cx=>qA 1099511627783 0 [40] h4<|mA JC [(7,[]),(8,[]),(9,[]),(11,[]),(12,[])] 7 [] fun cx=>iN JC 13 Pt.row ev6 fun cx=>mA JC [(14,[]),(15,[])] 4 [] fun cx=>mC JC 10<|vA [.rd,.rd,.rd] (zFx n x0 x1 x2 r5 er5)<|fA<|mC JC 16<|vA [.rd,.rd] (zHa n r5 v6.Hd r7 er7)<|fA<|mA JC [(17,[]),(18,[])] 0 [] fun cx=>mE JC [33] []
     cases h5 : r7
     ·have H := q3 h5 H
      exact nB_<|tK<|gA 1 64 0<|te (fJ [(false,[cI 3])] H)
     have H := q7 h5 H
     exact tB_<|gA 1 64 0<|te (fJ [(false,[cI 2])] H)
    have H := q7 h4 H
    refine Tr.draws mixed 19 kr ⟨52,0,[sB 33 true],[]⟩ (fun cx=>?_) ?_
    ·exact mA JC [(0,[]),(1,[])] 17 [] fun cx=>iN JC 2 Pt.row ev4 fun cx=>mA JC [(3,[]),(4,[]),(5,[]),(6,[])] 12 [] fun cx=>qA 1099511627783 0 [40] h4<|mA JC [(7,[]),(8,[]),(9,[]),(10,[]),(11,[]),(12,[]),(13,[]),(14,[]),(15,[]),(16,[]),(17,[]),(18,[])] 0 [] fun cx=>mE JC [33] []
    exact tB_<|gA 1 64 0<|te (fJ [(false,[cI 2])] H)
   exact tA h3<|gA 1 64 0<|te (fJ [(false,[cI 1])] H)
  exact tA h2<|gA 1 64 0<|te (fJ [(false,[cI 4])] H)
 exact qL 32775 0 [15] h1<|uA 7 4194311 0<|tB_<|gA 1 64 0<|te (fJ [(false,[cI 4])] H)
def zCT (n : Nat) (y3 : Int) : Option (Int) :=
  (some y3)
def QJ (n : Nat) : Nat → Int → (List Pt) → Int → Int → Option ((Int) ⊕ (Int))
  | 0,_,_,_,_ => none
  | mo4 + 1,x0,x1,y1,y2 => (bif (decide (y1 < (x1.length : Int))) then (bif (decide (y1 < 6)) then ((JI n x0 x1 y1).bind fun r5 => (bif (decide (r5 ≤ 2)) then (bif (decide ((0 : Int) ≤ (IntKind.wrap .u64 y1))) then (QJ n mo4 x0 x1 (IntKind.wrap .i64 (y1 + 1)) (IntKind.wrap .i64 (BitVec.ofInt (IntKind.bits .i64) y2 ||| BitVec.ofInt (IntKind.bits .i64) (IntKind.wrap .i64 (1 * 2 ^ min (((IntKind.wrap .u64 y1) : Int)).toNat (IntKind.bits .i64)))).toNat)) else none) else (QJ n mo4 x0 x1 (IntKind.wrap .i64 (y1 + 1)) y2))) else (some (Sum.inl y2))) else (some (Sum.inl y2)))
def QI (n : Nat) (x0 : Int) (x1 : (List Pt)) : Option (Int) :=
  ((QJ n n x0 x1 0 0).bind fun o => match o with | .inl y3 => (zCT n y3) | .inr r => some r)
theorem zNI (n : Nat) (x0 : Int) (x1 : (List Pt)) (r : Int) (H : QI n x0 x1 = some r) : zJ Tryz.prog 164 [.val false [.lit (.int .i64 x0)],.val false [.sl false 8 (CV.frzEs (x1.map Pt.row))]] [.val false [.lit (.int .i64 r)]] [] := by
 refine cW Tryz.func164 (fun g d => sl [g 0,g 1,sl [g 2] (.block 0 (.loop (sl [sl [g 3] (cn 14 .skip (.exit 0)),.block 1 (sl [g 5] (cn 21 (g 6) .skip))] (g 4)))),g 7] .ret) [.tmp 4] fun cx=>?_
 unfold QI at H
 refine gA 1 3 0<|gA 1 35 0<|tS<|gA 1 99 0 ?_
 obtain ⟨o4,eo4,Ho4⟩ := bs H
 clear H
 refine Tr.mid (ι := Int) (fun v => ⟨28,0,[sI 5 v],[]⟩) (fun v => zCT n v = some r) ?_ ?_
 ·refine tB<|Tr.loop (ι := Nat × (Int × Int)) (fun v => ⟨28,0,[sI 6 v.2.1,sI 5 v.2.2,sI 0 x0,sC 1 (cF 8 x1 Pt.row)],[]⟩) (fun v => QJ n v.1 x0 x1 v.2.1 v.2.2 = some o4) (fun v => v.1) (n,(0,0)) eo4 (St.sub_of [6,5,0,1] [] kr) ?_
  rintro ⟨mo4,y1,y2⟩ H
  have H : QJ n mo4 x0 x1 y1 y2 = some o4 := H
  obtain _ | mo4 := mo4
  ·exact nN H
  rw [QJ] at H
  refine tS<|rA 2<|kF x1 Pt.row<|lA 2 ?_
  obtain ⟨h1,H⟩ | ⟨h1,H⟩ := bC H
  ·refine qL 2147 0 [11] h1<|uA 3 16483 0<|nB_<|Tr.exit<|aJ ?_
   obtain rfl := si H
   have H := Ho4
   dsimp only at H
   exact jA y2 H [5] []
  refine qL 2147 0 [11] h1<|uA 3 16483 0 ?_
  obtain ⟨h2,H⟩ | ⟨h2,H⟩ := bC H
  ·refine nA h2<|Tr.exit<|aJ ?_
   obtain rfl := si H
   have H := Ho4
   dsimp only at H
   exact jA y2 H [5] []
  refine tA h2<|tK<|tS<|tB<|rA 3<|bE H fun r5 er5 H=> vA [.rd,.rd,.rd] (zMU n x0 x1 y1 r5 er5)<|uA 1 2097251 0 ?_
  obtain ⟨h3,H⟩ | ⟨h3,H⟩ := bC H
  ·exact nA h3<|tK<|eA 3 99 0<|jB mo4 ((wI (y1 + 1)),y2) H [6,5,0,1] []
  exact tA h3<|Tr.at<|lA 3<|gE H fun hg6 H=> LAt.binC tOk (op := .shl) (t := 3) (ty := 163) (ty' := 3) (x := (.const (.int .i64 1))) (y := (.tmp 24)) (d := 25) (g := none) (.int .i64 1) (.int .u64 (IntKind.wrap .u64 y1)) (.int .i64 (wI (1 * 2 ^ min (((IntKind.wrap .u64 y1) : Int)).toNat (IntKind.bits .i64)))) _ kr kr kr kr kr (φ := (0 : Int) ≤ (IntKind.wrap .u64 y1)) kr (of_decide_eq_true hg6) rfl<|uA 2 99 0<|eA 3 99 0<|jB mo4 ((wI (y1 + 1)),(wI (BitVec.ofInt (IntKind.bits .i64) y2 ||| BitVec.ofInt (IntKind.bits .i64) (wI (1 * 2 ^ min (((IntKind.wrap .u64 y1) : Int)).toNat (IntKind.bits .i64)))).toNat)) H [6,5,0,1] []
 rintro y3 H
 have H : (zCT n y3) = some r := H
 unfold zCT at H
 exact gA 2 16 0<|te (fJ [(false,[cI y3])] H)
def zCG (n : Nat) (x0 : Int) (x1 : Int) : Option (Bool) :=
  ((zT n x1 0 7).bind fun r1 => (bif r1 then (bif (decide ((0 : Int) ≤ (IntKind.wrap .u64 x1))) then (some ((IntKind.wrap .i64 (BitVec.ofInt (IntKind.bits .i64) (Int.fdiv x0 (2 ^ min (((IntKind.wrap .u64 x1) : Int)).toNat (IntKind.bits .i64))) &&& BitVec.ofInt (IntKind.bits .i64) 1).toNat) == 1)) else none) else (some false)))
theorem zNL (n : Nat) (x0 : Int) (x1 : Int) (r : Bool) (H : zCG n x0 x1 = some r) : zJ Tryz.prog 165 [.val false [.lit (.int .i64 x0)],.val false [.lit (.int .i64 x1)]] [.val false [.lit (.bool r)]] [] := by
 refine cW Tryz.func165 (fun g d => sl [g 0,g 1] .ret) [.tmp 4] fun cx=>?_
 unfold zCG at H
 refine gA 1 3 0<|rA 1<|bE H fun r1 er1 H=> vA [.rd,.rd,.rd] (zU n x1 0 7 r1 er1)<|lA 1 ?_
 obtain ⟨h1,H⟩ | ⟨h1,H⟩ := bC H
 ·exact qL 131 0 [7] h1<|uA 8 16 0<|te (fF H)
 exact qL 131 0 [7] h1<|lA 3<|gE H fun hg2 H=> LAt.binC tOk (op := .shr) (t := 3) (ty := 163) (ty' := 3) (x := (.tmp 8)) (y := (.tmp 10)) (d := 11) (g := (some (2,true))) (.int .i64 x0) (.int .u64 (IntKind.wrap .u64 x1)) (.int .i64 (Int.fdiv x0 (2 ^ min (((IntKind.wrap .u64 x1) : Int)).toNat (IntKind.bits .i64)))) _ kr kr kr kr kr (φ := (0 : Int) ≤ (IntKind.wrap .u64 x1)) kr (of_decide_eq_true hg2) rfl<|uA 4 16 0<|te (fJ [(false,[cB ((wI (BitVec.ofInt (IntKind.bits .i64) (Int.fdiv x0 (2 ^ min (((IntKind.wrap .u64 x1) : Int)).toNat (IntKind.bits .i64))) &&& BitVec.ofInt (IntKind.bits .i64) 1).toNat) == 1)])] H)
def Yy (n : Nat) (y3 : (List zB)) : Option ((List zB)) :=
  (some y3)
def qu (n : Nat) : Nat → (List zB) → Int → Int → (List zB) → Option (((List zB)) ⊕ ((List zB)))
  | 0,_,_,_,_ => none
  | mo4 + 1,x0,x1,y1,y2 => (bif (decide (y1 < (x0.length : Int))) then ((idx x0 y1).bind fun v5 => (bif v5.Sc then ((idx x0 y1).bind fun v9 => (bif (decide (y2.length + [v9].length ≤ 268435456)) then (qu n mo4 x0 x1 (IntKind.wrap .i64 (y1 + 1)) (y2 ++ [v9])) else none)) else ((idx x0 y1).bind fun v6 => (bif (v6.Port != x1) then ((idx x0 y1).bind fun v7 => (bif (decide (y2.length + [v7].length ≤ 268435456)) then (qu n mo4 x0 x1 (IntKind.wrap .i64 (y1 + 1)) (y2 ++ [v7])) else none)) else (qu n mo4 x0 x1 (IntKind.wrap .i64 (y1 + 1)) y2))))) else (some (Sum.inl y2)))
def Jm (n : Nat) (x0 : (List zB)) (x1 : Int) : Option ((List zB)) :=
  ((qu n n x0 x1 0 ([] : List zB)).bind fun o => match o with | .inl y3 => (Yy n y3) | .inr r => some r)
theorem zKV (n : Nat) (x0 : (List zB)) (x1 : Int) (r : (List zB)) (H : Jm n x0 x1 = some r) : zJ Tryz.prog 166 [.val false [.sl false 5 (CV.frzEs (x0.map zB.row))],.val false [.lit (.int .i64 x1)]] [.val false [.sl true 5 (r.map zB.row)]] [] := by
 refine cW Tryz.func166 (fun g d => sl [g 0,g 1,sl [g 2] (.block 0 (.loop (sl [sl [g 3] (cn 11 .skip (.exit 0)),.block 1 (sl [g 5] (cn 27 (g 6) .skip))] (g 4)))),g 7] .ret) [.tmp 4] fun cx=>?_
 unfold Jm at H
 refine gA 1 3 0<|rA 1<|LAt.moveU (T := lk tab) (ty := 25) (x := (.tmp 7)) (d := 5) (g := none) false [cL 5 ([] : List zB) zB.row] kr kr kr kr kr<|dA 35 0<|tS<|gA 1 99 0 ?_
 obtain ⟨o4,eo4,Ho4⟩ := bs H
 clear H
 refine Tr.mid (ι := (List zB)) (fun v => ⟨36,0,[sC 5 (cL 5 v zB.row)],[]⟩) (fun v => Yy n v = some r) ?_ ?_
 ·refine tB<|Tr.loop (ι := Nat × (Int × (List zB))) (fun v => ⟨36,0,[sI 6 v.2.1,sC 5 (cL 5 v.2.2 zB.row),sC 0 (cF 5 x0 zB.row),sI 1 x1],[]⟩) (fun v => qu n v.1 x0 x1 v.2.1 v.2.2 = some o4) (fun v => v.1) (n,(0,([] : List zB))) eo4 (St.sub_of [6,5,0,1] [] kr) ?_
  rintro ⟨mo4,y1,y2⟩ H
  have H : qu n mo4 x0 x1 y1 y2 = some o4 := H
  obtain _ | mo4 := mo4
  ·exact nN H
  rw [qu] at H
  refine tS<|rA 2<|kF x0 zB.row<|uA 1 2147 0 ?_
  obtain ⟨h1,H⟩ | ⟨h1,H⟩ := bC H
  ·refine nA h1<|Tr.exit<|aJ ?_
   obtain rfl := si H
   have H := Ho4
   dsimp only at H
   exact jA y2 H [5] []
  refine tA h1<|tK<|tS<|tB<|tS<|Tr.at<|lA 2<|bE H fun v5 ev5 H=> iA zB.row ev5<|lA 3 ?_
  obtain ⟨h2,H⟩ | ⟨h2,H⟩ := bC H
  ·refine qL 524387 0 [19] h2<|lA 2<|bE H fun v6 ev6 H=> iA zB.row ev6<|uA 5 134217827 0 ?_
   obtain ⟨h3,H⟩ | ⟨h3,H⟩ := bC H
   ·exact nA h3<|tK<|eA 3 99 0<|jB mo4 ((wI (y1 + 1)),y2) H [6,5,0,1] []
   exact tA h3<|Tr.at<|lA 3<|bE H fun v7 ev7 H=> iA zB.row ev7<|lA 2<|gE H fun hg8 H=> LAt.appMU tOk (t := 25) (ty := 25) (e := 103) (x := (.tmp 28)) (y := (.tmp 33)) (d := 34) (g := none) (tI 103) zB.row y2 [v7] kr kr kr kr kr kr kr kr kr kr hg8<|LAt.moveU (T := lk tab) (ty := 25) (x := (.tmp 34)) (d := 5) (g := none) false [cL 5 (y2 ++ [v7]) zB.row] kr kr kr kr kr<|dA 99 0<|eA 3 99 0<|jB mo4 ((wI (y1 + 1)),(y2 ++ [v7])) H [6,5,0,1] []
  exact qL 524387 0 [19] h2<|uA 8 134217827 0<|tB_<|Tr.at<|lA 3<|bE H fun v9 ev9 H=> iA zB.row ev9<|lA 2<|gE H fun hg10 H=> LAt.appMU tOk (t := 25) (ty := 25) (e := 103) (x := (.tmp 28)) (y := (.tmp 33)) (d := 34) (g := none) (tI 103) zB.row y2 [v9] kr kr kr kr kr kr kr kr kr kr hg10<|LAt.moveU (T := lk tab) (ty := 25) (x := (.tmp 34)) (d := 5) (g := none) false [cL 5 (y2 ++ [v9]) zB.row] kr kr kr kr kr<|dA 99 0<|eA 3 99 0<|jB mo4 ((wI (y1 + 1)),(y2 ++ [v9])) H [6,5,0,1] []
 rintro y3 H
 have H : (Yy n y3) = some r := H
 unfold Yy at H
 exact gA 2 48 0<|te (fJ [(false,[cL 5 y3 zB.row])] H)
def J0 (n : Nat) (r1 : Int) (x0 : zA) (y5 : (List zB)) : Option (zA) :=
  (some (⟨x0.Id,x0.Name,x0.Ps,y5,x0.V,x0.Tk,x0.Pa,x0.Wo,x0.Dr,r1⟩ : zA))
def qY (n : Nat) : Nat → Int → zA → Int → (List zB) → Option (((List zB)) ⊕ (zA))
  | 0,_,_,_,_ => none
  | mo6 + 1,r2,x0,y3,y4 => (bif (decide (y3 < (x0.Ps.length : Int))) then ((zCG n r2 y3).bind fun r7 => (bif (!r7) then ((Jm n y4 y3).bind fun r8 => (qY n mo6 r2 x0 (IntKind.wrap .i64 (y3 + 1)) r8)) else (qY n mo6 r2 x0 (IntKind.wrap .i64 (y3 + 1)) y4))) else (some (Sum.inl y4)))
def ZA (n : Nat) (x0 : zA) : Option (zA) :=
  ((JK n x0.Ve).bind fun r1 => ((QI n x0.Id x0.Ps).bind fun r2 => ((qY n n r2 x0 0 x0.F).bind fun o => match o with | .inl y5 => (J0 n r1 x0 y5) | .inr r => some r)))
theorem zDa (n : Nat) (x0 : zA) (r : zA) (H : ZA n x0 = some r) : zJ Tryz.prog 92 [.own true (zA.row x0)] [.val true (zA.row r)] [] := by
 refine cW Tryz.func92 (fun g d => sl [g 0,g 1,g 2,sl [g 3] (.block 0 (.loop (sl [sl [g 4] (cn 18 .skip (.exit 0)),.block 1 (sl [g 6] (cn 24 (g 7) .skip))] (g 5)))),g 8] .ret) [.cell 2 31] fun cx=>?_
 unfold ZA at H
 refine gA 2 6 6<|rA 2<|bE H fun r1 er1 H=> vA [.rd] (zIP n x0.Ve r1 er1)<|uA 2 6 6<|rA 4<|bE H fun r2 er2 H=> vB [.rd,.rd] [.box 1] (zNI n x0.Id x0.Ps r2 er2) (.inr (zO (zE zM zS) zW))<|uA 1 14 6<|tS<|gA 1 30 6 ?_
 obtain ⟨o6,eo6,Ho6⟩ := bs H
 clear H
 refine Tr.mid (ι := (List zB)) (fun v => ⟨31,0,[sA 2 2 11 0,sA 1 1 11 0],[(1,[cI x0.Id,cS x0.Name,cL 8 x0.Ps Pt.row,cL 5 v zB.row,cL 3 x0.V.Rows zC.row,cL 1 x0.V.Pv intRow,cI x0.Tk,cI x0.Pa,cI x0.Wo,cI x0.Dr,cI r1]),(2,[cI 0,cS (⟨#[]⟩ : ByteArray),cL 8 ([] : List Pt) Pt.row,cL 5 ([] : List zB) zB.row,cL 3 ([] : List zC) zC.row,cL 1 ([] : List Int) intRow,cI 0,cI 0,cI 0,cI 0,cI 0])]⟩) (fun v => J0 n r1 x0 v = some r) ?_ ?_
 ·refine tB<|Tr.loop (ι := Nat × (Int × (List zB))) (fun v => ⟨31,0,[sI 4 v.2.1,sI 3 r2,sA 2 2 11 0,sA 1 1 11 0],[(1,[cI x0.Id,cS x0.Name,cL 8 x0.Ps Pt.row,cL 5 v.2.2 zB.row,cL 3 x0.V.Rows zC.row,cL 1 x0.V.Pv intRow,cI x0.Tk,cI x0.Pa,cI x0.Wo,cI x0.Dr,cI r1]),(2,[cI 0,cS (⟨#[]⟩ : ByteArray),cL 8 ([] : List Pt) Pt.row,cL 5 ([] : List zB) zB.row,cL 3 ([] : List zC) zC.row,cL 1 ([] : List Int) intRow,cI 0,cI 0,cI 0,cI 0,cI 0])]⟩) (fun v => qY n v.1 r2 x0 v.2.1 v.2.2 = some o6) (fun v => v.1) (n,(0,x0.F)) eo6 (St.sub_of [4,3,2,1] [1,2] kr) ?_
  rintro ⟨mo6,y3,y4⟩ H
  have H : qY n mo6 r2 x0 y3 y4 = some o6 := H
  obtain _ | mo6 := mo6
  ·exact nN H
  rw [qY] at H
  refine tS<|rA 3<|kO x0.Ps Pt.row<|uA 1 262174 6 ?_
  obtain ⟨h1,H⟩ | ⟨h1,H⟩ := bC H
  ·refine nA h1<|Tr.exit<|aJ ?_
   obtain rfl := si H
   have H := Ho6
   dsimp only at H
   exact jA y4 H [2,1] [1,2]
  refine tA h1<|tK<|tS<|tB<|rA 2<|bE H fun r7 er7 H=> vA [.rd,.rd] (zNL n r2 y3 r7 er7)<|uA 1 16777246 6 ?_
  obtain ⟨h2,H⟩ | ⟨h2,H⟩ := bC H
  ·exact nA h2<|tK<|eA 3 30 6<|jB mo6 ((wI (y3 + 1)),y4) H [4,3,2,1] [1,2]
  exact tA h2<|Tr.at<|lA 3<|bE H fun r8 er8 H=> vB [.rd,.rd] [.box 1] (zKV n y4 y3 r8 er8) (.inr (zO (zE (Q0 (Zv zB.row_mine _)) zS) zW))<|uA 2 30 6<|eA 3 30 6<|jB mo6 ((wI (y3 + 1)),r8) H [4,3,2,1] [1,2]
 rintro y5 H
 have H : (J0 n r1 x0 y5) = some r := H
 unfold J0 at H
 exact gA 2 4 4<|te (fJ [(true,[cI x0.Id,cS x0.Name,cL 8 x0.Ps Pt.row,cL 5 y5 zB.row,cL 3 x0.V.Rows zC.row,cL 1 x0.V.Pv intRow,cI x0.Tk,cI x0.Pa,cI x0.Wo,cI x0.Dr,cI r1])] H)
def Qe (n : Nat) (x0 : zA) (x1 : Int) (x2 : Bool) : Option (zA) :=
  ((Qg n x0).bind fun r1 => ((Y6 n x0 x1).bind fun r2 => (bif (!r2) then (some r1) else ((idx x0.Ps x1).bind fun v3 => ((idx r1.Ps x1).bind fun v4 => ((ZA n (⟨r1.Id,r1.Name,(r1.Ps.set (x1.toNat) (⟨x2,v3.Co,false,(⟨0,0,0,0,0⟩ : Vec)⟩ : Pt)),r1.F,r1.V,r1.Tk,r1.Pa,r1.Wo,r1.Dr,r1.Ve⟩ : zA)).bind fun r5 => (some r5)))))))
def zP2 : Tab := ⟨13,[0,1,0,0,0,16,0,96,128,256,520,2047,4095],[0,1,0,0,0,16,0,96,128,256,520,6,3072],[0,1,0,0,0,16,0,112,240,496,1016,2047,4095]⟩
theorem zGQ : zg (rg Tryz.f20 4) zP2 = true := kr
theorem zFC (n : Nat) (x0 : zA) (x1 : Int) (x2 : Bool) (r : zA) (H : Qe n x0 x1 x2 = some r) : zJ Tryz.prog 20 [.val true (fR (zA.row x0)),.val false [.lit (.int .i64 x1)],.val false [.lit (.bool x2)]] [.val true (zA.row r)] [] := by
 refine cW Tryz.func20 (fun g d => sl [g 0,g 1,sl [g 2] (cn 13 (sl [g 3] .ret) .skip),d 4,g 5] .ret) [.cell 6 31] fun cx=>?_
 unfold Qe at H
 refine gA 2 78 72<|rA 1<|bE H fun r1 er1 H=> vA [.rd] (zC3 n x0 r1 er1)<|uA 2 206 200<|tS<|rA 2<|bE H fun r2 er2 H=> vA [.rd,.rd] (zGv n x0 x1 r2 er2)<|uA 1 8398 200 ?_
 obtain ⟨h1,H⟩ | ⟨h1,H⟩ := bC H
 ·refine nA h1<|tK<|bE H fun v3 ev3 H=> bE H fun v4 ev4 H=> Tr.draws mixed 13 kr ⟨29,0,[sA 7 7 11 0,sA 6 6 11 0],[(7,[cI r1.Id,cS r1.Name,cL 8 (r1.Ps.set (x1.toNat) (⟨x2,v3.Co,false,(⟨0,0,0,0,0⟩ : Vec)⟩ : Pt)) Pt.row,cL 5 r1.F zB.row,cL 3 r1.V.Rows zC.row,cL 1 r1.V.Pv intRow,cI r1.Tk,cI r1.Pa,cI r1.Wo,cI r1.Dr,cI r1.Ve]),(6,[cI 0,cS (⟨#[]⟩ : ByteArray),cL 8 ([] : List Pt) Pt.row,cL 5 ([] : List zB) zB.row,cL 3 ([] : List zC) zC.row,cL 1 ([] : List Int) intRow,cI 0,cI 0,cI 0,cI 0,cI 0])]⟩ (fun cx=>?_) ?_
  ·exact mA zGQ [(0,[]),(1,[12]),(2,[]),(3,[]),(4,[]),(5,[10,12]),(6,[])] 6 [⟨[10,12],24,19,20⟩,⟨[12],24,15,16⟩] fun cx=>iN zGQ 7 Pt.row ev3 fun cx=>mA zGQ [(8,[]),(9,[])] 3 [⟨[10,12],24,19,20⟩,⟨[12],24,15,16⟩] fun cx=>mC zGQ 10<|lA 1<|fA<|oN zGQ 11 Pt.row ev4 fun cx=>mC zGQ 12<|LAt.storeB tOk (t := 100) (ty := 0) (ad := (.tmp 26)) (x := (.tmp 25)) (g := none) (tI 100) true [cB x2,cI v3.Co,cB false,cI 0,cI 0,cI 0,cI 0,cI 0] 7 2 (x1.toNat) 8 0 8 r1.Ps Pt.row v4 (⟨x2,v3.Co,false,(⟨0,0,0,0,0⟩ : Vec)⟩ : Pt) kr kr kr kr kr kr kr kr (zN ev4).2 kr kr kr kr<|fA<|mE zGQ [7,6] [7,6]
  exact rA 1<|bE H fun r5 er5 H=> vA [.own] (zDa n (⟨r1.Id,r1.Name,(r1.Ps.set (x1.toNat) (⟨x2,v3.Co,false,(⟨0,0,0,0,0⟩ : Vec)⟩ : Pt)),r1.F,r1.V,r1.Tk,r1.Pa,r1.Wo,r1.Dr,r1.Ve⟩ : zA) r5 er5)<|uA 1 64 64<|te (fJ [(true,(zA.row r5))] H)
 exact tA h1<|gA 2 64 64<|te (fJ [(true,(zA.row r1))] H)
def zBq (n : Nat) (x2 : (List Link)) (y8 : (List zA)) : Option (Net) :=
  (some (⟨y8,(([] : List Link) ++ x2),([] : List Say)⟩ : Net))
def zAD (n : Nat) (k : (Int × (List zA) → Option (((List zA)) ⊕ (Net)))) (y6 : Int) (y12 : (List zA)) : Option (((List zA)) ⊕ (Net)) :=
  (k ((IntKind.wrap .i64 (y6 + 1)),y12))
def ZJ (n : Nat) : Nat → Int → Int → Int → (List zA) → Option (((List zA)) ⊕ (Net))
  | 0,_,_,_,_ => none
  | mo13 + 1,x1,y6,y10,y11 => (bif (decide (y10 < x1)) then ((idx y11 y6).bind fun v14 => ((Qe n v14 y10 true).bind fun r15 => (ZJ n mo13 x1 y6 (IntKind.wrap .i64 (y10 + 1)) (y11.set (y6.toNat) r15)))) else (some (Sum.inl y11)))
def Za (n : Nat) : Nat → Int → Int → (List zA) → Option (((List zA)) ⊕ (Net))
  | 0,_,_,_ => none
  | mo9 + 1,x1,y6,y7 => (bif (decide (y6 < (y7.length : Int))) then ((ZJ n n x1 y6 0 y7).bind fun o => match o with | .inl y12 => (zAD n (fun v => Za n mo9 x1 v.1 v.2) y6 y12) | .inr r => some (Sum.inr r)) else (some (Sum.inl y7)))
def YX (n : Nat) (x1 : Int) (x2 : (List Link)) (y4 : (List zA)) : Option (Net) :=
  ((ZV n (⟨y4,(([] : List Link) ++ x2),([] : List Say)⟩ : Net)).bind fun r5 => (bif (!r5) then (some (⟨([] : List zA),([] : List Link),([] : List Say)⟩ : Net)) else ((Za n n x1 0 y4).bind fun o => match o with | .inl y8 => (zBq n x2 y8) | .inr r => some r)))
def qX (n : Nat) : Nat → (List Int) → Int → Int → (List zA) → Option (((List zA)) ⊕ (Net))
  | 0,_,_,_,_ => none
  | mo16 + 1,x0,x1,y2,y3 => (bif (decide (y2 < (x0.length : Int))) then ((idx x0 y2).bind fun v17 => ((qN n v17 x1).bind fun r18 => (bif (decide (y3.length + [r18].length ≤ 268435456)) then (qX n mo16 x0 x1 (IntKind.wrap .i64 (y2 + 1)) (y3 ++ [r18])) else none))) else (some (Sum.inl y3)))
def ZR (n : Nat) (x0 : (List Int)) (x1 : Int) (x2 : (List Link)) : Option (Net) :=
  (bif (decide (([] : List Link).length + x2.length ≤ 268435456)) then ((qX n n x0 x1 0 ([] : List zA)).bind fun o => match o with | .inl y4 => (YX n x1 x2 y4) | .inr r => some r) else none)
def zP4 : Tab := ⟨12,[0,1,0,0,12,16,0,96,128,386,1023,2047],[0,1,0,0,12,16,0,96,128,258,0,1536],[0,1,0,0,12,28,0,124,252,511,1023,2047]⟩
theorem zEd : zg (rg Tryz.f46 5) zP4 = true := kr
def zPi : Tab := ⟨12,[0,1,0,0,8,0,48,64,0,384,1023,2047],[0,1,0,0,8,0,48,64,0,384,6,1536],[0,1,0,0,8,0,56,120,0,504,1023,2047]⟩
theorem zDv : zg (rg Tryz.f46 14) zPi = true := kr
theorem Jv (n : Nat) (x0 : (List Int)) (x1 : Int) (x2 : (List Link)) (r : Net) (H : ZR n x0 x1 x2 = some r) : zJ Tryz.prog 46 [.val false [.sl false 1 (CV.frzEs (x0.map intRow))],.val false [.lit (.int .i64 x1)],.val false [.sl false 4 (CV.frzEs (x2.map Link.row))]] [.val true (Net.row r)] [] := by
 refine cW Tryz.func46 (fun g d => sl [g 0,g 1,sl [g 2] (.block 0 (.loop (sl [sl [g 3] (cn 18 .skip (.exit 0)),.block 1 (d 5)] (g 4)))),sl [g 6] (cn 34 (sl [g 7] .ret) .skip),sl [g 8] (.block 2 (.loop (sl [sl [g 9] (cn 40 .skip (.exit 2)),.block 3 (sl [g 11] (.block 4 (.loop (sl [sl [g 12] (cn 45 .skip (.exit 4)),.block 5 (d 14)] (g 13)))))] (g 10)))),g 15] .ret) [.cell 6 53] fun cx=>?_
 unfold ZR at H
 refine gA 1 71 64<|rA 2<|gE H fun hg1 H=> pD Link.row hg1<|uA 3 195 192<|tS<|gA 1 451 192 ?_
 obtain ⟨o16,eo16,Ho16⟩ := bs H
 clear H
 refine Tr.mid (ι := (List zA)) (fun v => ⟨60,0,[sA 7 7 3 0,sA 6 6 3 0,sI 1 x1],[(7,[cL 11 v zA.row,cL 4 (([] : List Link) ++ x2) Link.row,cL 7 ([] : List Say) Say.row]),(6,[cL 11 ([] : List zA) zA.row,cL 4 ([] : List Link) Link.row,cL 7 ([] : List Say) Say.row])]⟩) (fun v => YX n x1 x2 v = some r) ?_ ?_
 ·refine tB<|Tr.loop (ι := Nat × (Int × (List zA))) (fun v => ⟨60,0,[sI 8 v.2.1,sA 7 7 3 0,sA 6 6 3 0,sC 0 (cF 1 x0 intRow),sI 1 x1],[(7,[cL 11 v.2.2 zA.row,cL 4 (([] : List Link) ++ x2) Link.row,cL 7 ([] : List Say) Say.row]),(6,[cL 11 ([] : List zA) zA.row,cL 4 ([] : List Link) Link.row,cL 7 ([] : List Say) Say.row])]⟩) (fun v => qX n v.1 x0 x1 v.2.1 v.2.2 = some o16) (fun v => v.1) (n,(0,([] : List zA))) eo16 (St.sub_of [8,7,6,0,1] [7,6] kr) ?_
  rintro ⟨mo16,y2,y3⟩ H
  have H : qX n mo16 x0 x1 y2 y3 = some o16 := H
  obtain _ | mo16 := mo16
  ·exact nN H
  rw [qX] at H
  refine tS<|rA 2<|kF x0 intRow<|uA 1 262595 192 ?_
  obtain ⟨h4,H⟩ | ⟨h4,H⟩ := bC H
  ·refine nA h4<|Tr.exit<|aJ ?_
   obtain rfl := si H
   have H := Ho16
   dsimp only at H
   exact jA y3 H [7,6,1] [7,6]
  refine tA h4<|tK<|tS<|tB<|bE H fun v17 ev17 H=> bE H fun r18 er18 H=> gE H fun hg19 H=> Tr.draw mixed 12 kr ⟨60,0,[sI 8 y2,sA 7 7 3 0,sA 6 6 3 0,sC 0 (cF 1 x0 intRow),sI 1 x1],[(7,[cL 11 (y3 ++ [r18]) zA.row,cL 4 (([] : List Link) ++ x2) Link.row,cL 7 ([] : List Say) Say.row]),(6,[cL 11 ([] : List zA) zA.row,cL 4 ([] : List Link) Link.row,cL 7 ([] : List Say) Say.row])]⟩ (fun cx=>?_) ?_
  ·exact mA zEd [(0,[]),(1,[9,11]),(2,[]),(3,[])] 8 [⟨[9,11],49,21,22⟩] fun cx=>iN zEd 4 intRow ev17 fun cx=>mA zEd [(5,[]),(6,[])] 5 [⟨[9,11],49,21,22⟩] fun cx=>mC zEd 7<|vA [.rd,.rd] (zGE n v17 x1 r18 er18)<|fA<|mC zEd 8<|lA 1<|fA<|mC zEd 9<|LAt.appMU tOk (t := 49) (ty := 49) (e := 31) (x := (.tmp 22)) (y := (.tmp 29)) (d := 30) (g := none) (tI 31) zA.row y3 [r18] kr kr kr kr kr kr kr kr kr kr hg19<|fA<|mA zEd [(10,[])] 1 [⟨[9,11],49,21,22⟩] fun cx=>mC zEd 11<|lA 1<|fA<|mE zEd [8,7,6,0,1] [7,6]
  exact eA 3 451 192<|jB mo16 ((wI (y2 + 1)),(y3 ++ [r18])) H [8,7,6,0,1] [7,6]
 rintro y4 H
 have H : (YX n x1 x2 y4) = some r := H
 unfold YX at H
 refine tS<|rA 1<|bE H fun r5 er5 H=> vB [.rd] [.box 7] (zEp n (⟨y4,(([] : List Link) ++ x2),([] : List Say)⟩ : Net) r5 er5) (.inr (zO (zE zM zS) zW))<|uA 1 17179869378 192 ?_
 obtain ⟨h1,H⟩ | ⟨h1,H⟩ := bC H
 ·refine nA h1<|tK<|tS<|gA 1 706 192 ?_
  obtain ⟨o9,eo9,Ho9⟩ := bs H
  clear H
  refine Tr.mid (ι := (List zA)) (fun v => ⟨60,0,[sA 7 7 3 0,sA 6 6 3 0],[(7,[cL 11 v zA.row,cL 4 (([] : List Link) ++ x2) Link.row,cL 7 ([] : List Say) Say.row]),(6,[cL 11 ([] : List zA) zA.row,cL 4 ([] : List Link) Link.row,cL 7 ([] : List Say) Say.row])]⟩) (fun v => zBq n x2 v = some r) ?_ ?_
  ·refine tB<|Tr.loop (ι := Nat × (Int × (List zA))) (fun v => ⟨60,0,[sI 9 v.2.1,sA 7 7 3 0,sA 6 6 3 0,sI 1 x1],[(7,[cL 11 v.2.2 zA.row,cL 4 (([] : List Link) ++ x2) Link.row,cL 7 ([] : List Say) Say.row]),(6,[cL 11 ([] : List zA) zA.row,cL 4 ([] : List Link) Link.row,cL 7 ([] : List Say) Say.row])]⟩) (fun v => Za n v.1 x1 v.2.1 v.2.2 = some o9) (fun v => v.1) (n,(0,y4)) eo9 (St.sub_of [9,7,6,1] [7,6] kr) ?_
   rintro ⟨mo9,y6,y7⟩ H
   have H : Za n mo9 x1 y6 y7 = some o9 := H
   obtain _ | mo9 := mo9
   ·exact nN H
   rw [Za] at H
   refine tS<|rA 3<|kO y7 zA.row<|uA 1 1099511628482 192 ?_
   obtain ⟨h2,H⟩ | ⟨h2,H⟩ := bC H
   ·refine nA h2<|Tr.exit<|aJ ?_
    obtain rfl := si H
    have H := Ho9
    dsimp only at H
    exact jA y7 H [7,6] [7,6]
   refine tA h2<|tK<|tS<|tB<|gA 1 1730 192 ?_
   obtain ⟨o13,eo13,Ho13⟩ := bs H
   clear H
   refine Tr.mid (ι := (List zA)) (fun v => ⟨60,0,[sI 9 y6,sA 7 7 3 0,sA 6 6 3 0,sI 1 x1],[(7,[cL 11 v zA.row,cL 4 (([] : List Link) ++ x2) Link.row,cL 7 ([] : List Say) Say.row]),(6,[cL 11 ([] : List zA) zA.row,cL 4 ([] : List Link) Link.row,cL 7 ([] : List Say) Say.row])]⟩) (fun v => zAD n (fun v => Za n mo9 x1 v.1 v.2) y6 v = some o9) ?_ ?_
   ·refine tB<|Tr.loop (ι := Nat × (Int × (List zA))) (fun v => ⟨60,0,[sI 10 v.2.1,sI 9 y6,sA 7 7 3 0,sA 6 6 3 0,sI 1 x1],[(7,[cL 11 v.2.2 zA.row,cL 4 (([] : List Link) ++ x2) Link.row,cL 7 ([] : List Say) Say.row]),(6,[cL 11 ([] : List zA) zA.row,cL 4 ([] : List Link) Link.row,cL 7 ([] : List Say) Say.row])]⟩) (fun v => ZJ n v.1 x1 y6 v.2.1 v.2.2 = some o13) (fun v => v.1) (n,(0,y7)) eo13 (St.sub_of [10,9,7,6,1] [7,6] kr) ?_
    rintro ⟨mo13,y10,y11⟩ H
    have H : ZJ n mo13 x1 y6 y10 y11 = some o13 := H
    obtain _ | mo13 := mo13
    ·exact nN H
    rw [ZJ] at H
    refine tS<|gA 3 35184372090562 192 ?_
    obtain ⟨h3,H⟩ | ⟨h3,H⟩ := bC H
    ·refine nA h3<|Tr.exit<|aJ ?_
     obtain rfl := si H
     have H := Ho13
     dsimp only at H
     exact jA y11 H [9,7,6,1] [7,6]
    refine tA h3<|tK<|tS<|tB<|bE H fun v14 ev14 H=> bE H fun r15 er15 H=> Tr.draw mixed 12 kr ⟨60,0,[sI 10 y10,sI 9 y6,sA 7 7 3 0,sA 6 6 3 0,sI 1 x1],[(7,[cL 11 (y11.set (y6.toNat) r15) zA.row,cL 4 (([] : List Link) ++ x2) Link.row,cL 7 ([] : List Say) Say.row]),(6,[cL 11 ([] : List zA) zA.row,cL 4 ([] : List Link) Link.row,cL 7 ([] : List Say) Say.row])]⟩ (fun cx=>?_) ?_
    ·refine mA zDv [(0,[]),(1,[11]),(2,[]),(3,[]),(4,[9,11]),(5,[])] 6 [⟨[9,11],49,51,52⟩,⟨[11],49,48,49⟩] fun cx=>oN zDv 6 zA.row ev14 fun cx=>mA zDv [(8,[])] 4 [⟨[9,11],49,51,52⟩,⟨[11],49,48,49⟩] fun cx=>mC zDv 7<|dE (tI 31) (.box 7) [(0,0),(0,(y6.toNat))] 11 0 [.sl true 3 [[cL 11 y11 zA.row,cL 4 (([] : List Link) ++ x2) Link.row,cL 7 ([] : List Say) Say.row]]] (zA.row v14) (zX rfl (zN ev14).2)<|fA<|mC zDv 9<|LAt.callO tOk [.rd,.rd,.rd] (f := 20) (av := #[.tmp 55,.tmp 56,.const (.bool true)]) (ats := #[31,3,4]) (d := (some 57)) (ty := 31) (g := none) [(55,zA.row v14)] none kr kr kr [.box 7] (zFC n v14 y10 true r15 er15) (zE9 (row := [.sl true 3 [[cL 11 y11 zA.row,cL 4 (([] : List Link) ++ x2) Link.row,cL 7 ([] : List Say) Say.row]]]) (q := [(0,0),(0,(y6.toNat))]) kr (zX rfl (zN ev14).2) zGB) kr zGA (.inr (And.intro (zO (zA.row_mine _) zW) zFA))<|fA<|oN zDv 10 zA.row ev14 fun cx=>sA_ 0x61b0000000006c2 192 ⟨60,0,[(58,.adr (.box 7) [(0,0),(0,(y6.toNat))] 11 0),sV 57 (zA.row r15),sR 52 7 3 0 1 false,sA 51 7 3 0,sR 49 7 3 0 1 false,sA 48 7 3 0,sI 10 y10,sI 9 y6,sA 7 7 3 0,sA 6 6 3 0,sI 1 x1],[(7,[cL 11 y11 zA.row,cL 4 (([] : List Link) ++ x2) Link.row,cL 7 ([] : List Say) Say.row]),(6,[cL 11 ([] : List zA) zA.row,cL 4 ([] : List Link) Link.row,cL 7 ([] : List Say) Say.row])]⟩<|mC zDv 11<|LAt.storeB tOk (t := 31) (ty := 0) (ad := (.tmp 58)) (x := (.tmp 57)) (g := none) (tI 31) true (zA.row r15) 7 0 (y6.toNat) 11 0 11 y11 zA.row v14 r15 kr kr kr kr kr kr kr kr (zN ev14).2 kr kr kr kr ?_
     exact fA<|mE zDv [10,9,7,6,1] [7,6]
    exact eA 3 1730 192<|jB mo13 ((wI (y10 + 1)),(y11.set (y6.toNat) r15)) H [10,9,7,6,1] [7,6]
   rintro y12 H
   have H : (zAD n (fun v => Za n mo9 x1 v.1 v.2) y6 y12) = some o9 := H
   unfold zAD at H
   exact eA 3 706 192<|jB mo9 ((wI (y6 + 1)),y12) H [9,7,6,1] [7,6]
  rintro y8 H
  have H : (zBq n x2 y8) = some r := H
  unfold zBq at H
  exact gA 2 64 64<|te (fJ [(true,[cL 11 y8 zA.row,cL 4 (([] : List Link) ++ x2) Link.row,cL 7 ([] : List Say) Say.row])] H)
 exact tA h1<|gA 2 64 64<|te (fJ [(true,[cL 11 ([] : List zA) zA.row,cL 4 ([] : List Link) Link.row,cL 7 ([] : List Say) Say.row])] H)
def Qq (n : Nat) (r5 : Int × Src) (x1 : Net) (y6 : Bool) : Option (Event × Src) :=
  (bif y6 then (bif ((x1.Ls.length : Int) == 0) then (some ((⟨6,0⟩ : Event),r5.2)) else ((zF n r5.2 (x1.Ls.length : Int)).bind fun r8 => (some ((⟨r5.1,r8.1⟩ : Event),r8.2)))) else (bif ((x1.Bs.length : Int) == 0) then (some ((⟨r5.1,0⟩ : Event),r5.2)) else ((zF n r5.2 (x1.Bs.length : Int)).bind fun r7 => (some ((⟨r5.1,r7.1⟩ : Event),r7.2)))))
def Qp (n : Nat) (x1 : Net) (y1 : Bool) (y2 : (List Int)) (y3 : Int) (y4 : Int) : Option (Event × Src) :=
  (bif y1 then ((zY n (⟨y2,y3,y4⟩ : Src) [2,2,2,2,3]).bind fun r9 => ((zF n r9.2 (x1.Said.length : Int)).bind fun r10 => (some ((⟨r9.1,r10.1⟩ : Event),r10.2)))) else ((zY n (⟨y2,y3,y4⟩ : Src) [1,1,1,1,4,5,6]).bind fun r5 => (bif (r5.1 == 4) then (Qq n r5 x1 true) else (Qq n r5 x1 (r5.1 == 5)))))
def Y8 (n : Nat) (x0 : Src) (x1 : Net) : Option (Event × Src) :=
  (bif (decide ((x1.Said.length : Int) > 0)) then ((QC n x0 2).bind fun r11 => (Qp n x1 r11.1 r11.2.b r11.2.i r11.2.h)) else (Qp n x1 false x0.b x0.i x0.h))
noncomputable abbrev zFp (k : Nat) := Rg Tryz.f139 k
noncomputable abbrev D139 (k : Nat) := Rd Tryz.f139 k
theorem zLF (n : Nat) (x0 : Src) (x1 : Net) (r : Event × Src) (H : Y8 n x0 x1 = some r) : zJ Tryz.prog 139 [.ptr (fR (Src.row x0)),.val true (fR (Net.row x1))] [.val true (Event.row r.1)] [(0,(fR (Src.row r.2)))] := by
 refine zJ.of_body tOk Tryz.func139 rfl (c := (.seq (zFp 0) (.seq (.seq (zFp 1) (.cond (.tmp 13) (.seq (D139 2) .ret) .skip)) (.seq (zFp 3) (.seq (.seq (zFp 4) (.cond (.tmp 31) (.seq (.seq (zFp 5) (.cond (.tmp 35) (.seq (zFp 6) .ret) .skip)) (.seq (zFp 7) .ret)) .skip)) (.seq (.seq (zFp 8) (.cond (.tmp 47) (.seq (zFp 9) .ret) .skip)) (.seq (zFp 10) .ret))))))) kr (Nat.le_of_ble_eq_true kr) 1 (rs := [.cell 4 84]) rfl [] .nil [(true,(Event.row r.1))] [] [(0,(fR (Src.row r.2)))] fun cx=>?_
 show Tr _ _ _ ⟨57,1,[sA 0 0 3 0,sV 1 (fR (Net.row x1))],[(0,(fR (Src.row x0)))]⟩ _
 unfold Y8 at H
 refine gA 2 25 25<|tS<|tS<|Tr.mid (ι := Bool × (List Int) × Int × Int) (fun v => ⟨57,1,[sB 13 v.1,sA 4 4 2 0,sA 3 3 3 0,sA 0 0 3 0],[(4,[cI 0,cI 0]),(3,(fR (Net.row x1))),(0,[cF 1 v.2.1 zd,cI v.2.2.1,cI v.2.2.2])]⟩) (fun v => Qp n x1 v.1 v.2.1 v.2.2.1 v.2.2.2 = some r) ?_ ?_
 ·refine Tr.at<|lA 2<|kF x1.Said Say.row<|lA 2 ?_
  obtain ⟨h6,H⟩ | ⟨h6,H⟩ := bC H
  ·exact qL 1049 25 [10] h6<|uA 3 8217 25<|jA (false,x0.b,x0.i,x0.h) H [13,4,3,0] [4,3,0]
  exact qL 1049 25 [10] h6<|lA 1<|bE H fun r11 er11 H=> vL [.lend,.rd] (zCD n x0 2 r11 er11)<|uA 1 8217 25<|jA (r11.1,r11.2.b,r11.2.i,r11.2.h) H [13,4,3,0] [4,3,0]
 rintro ⟨y1,y2,y3,y4⟩ H
 have H : (Qp n x1 y1 y2 y3 y4) = some r := H
 unfold Qp at H
 cases h1 : y1
 ·have H := q3 h1 H
  refine nB_<|tK<|rA 2<|bE H fun r5 er5 H=> vL [.lend,.rd] (zi n (⟨y2,y3,y4⟩ : Src) [1,1,1,1,4,5,6] r5 er5)<|uA 1 57 25<|tS<|tS<|Tr.mid (ι := Bool) (fun v => ⟨57,1,[sB 31 v,sI 5 r5.1,sA 4 4 2 0,sA 3 3 3 0,sA 0 0 3 0],[(0,(fR (Src.row r5.2))),(4,[cI 0,cI 0]),(3,(fR (Net.row x1)))]⟩) (fun v => Qq n r5 x1 v = some r) ?_ ?_
  ·refine Tr.at<|lA 3 ?_
   obtain ⟨h5,H⟩ | ⟨h5,H⟩ := bC H
   ·exact qL 268435513 25 [28] h5<|uA 3 2147483705 25<|jA (r5.1 == 5) H [31,5,4,3,0] [0,4,3]
   exact qL 268435513 25 [28] h5<|uA 3 2147483705 25<|jA true H [31,5,4,3,0] [0,4,3]
  rintro y6 H
  have H : (Qq n r5 x1 y6) = some r := H
  unfold Qq at H
  cases h2 : y6
  ·have H := q3 h2 H
   refine nB_<|tK<|tS<|rA 2<|kF x1.Bs zA.row<|uA 1 0x800000000039 25 ?_
   obtain ⟨h3,H⟩ | ⟨h3,H⟩ := bC H
   ·exact nA h3<|tK<|rA 4<|kF x1.Bs zA.row<|bE H fun r7 er7 H=> vL [.lend,.rd] (zL n r5.2 (x1.Bs.length : Int) r7 er7)<|uA 2 17 17<|te<|fY [(true,[cI r5.1,cI r7.1])] [(0,(fR (Src.row r7.2)))] H
   exact tA h3<|gA 3 17 17<|te<|fY [(true,[cI r5.1,cI 0])] [(0,(fR (Src.row r5.2)))] H
  have H := q7 h2 H
  refine tB_<|tS<|rA 2<|kF x1.Ls Link.row<|uA 1 34359738425 25 ?_
  obtain ⟨h4,H⟩ | ⟨h4,H⟩ := bC H
  ·exact nA h4<|tK<|rA 4<|kF x1.Ls Link.row<|bE H fun r8 er8 H=> vL [.lend,.rd] (zL n r5.2 (x1.Ls.length : Int) r8 er8)<|uA 2 17 17<|te<|fY [(true,[cI r5.1,cI r8.1])] [(0,(fR (Src.row r8.2)))] H
  exact tA h4<|gA 2 17 17<|te<|fY [(true,[cI 6,cI 0])] [(0,(fR (Src.row r5.2)))] H
 have H := q7 h1 H
 refine tB_<|bE H fun r9 er9 H=> bE H fun r10 er10 H=> Tr.draws mixed 10 kr ⟨57,1,[sA 4 4 2 0,sA 0 0 3 0],[(4,[cI r9.1,cI r10.1]),(0,(fR (Src.row r10.2)))]⟩ (fun cx=>?_) ?_
 ·refine aA [(0,[]),(3,[]),(4,[]),(5,[7,8,9])] 6 [⟨[7,8,9],51,18,19⟩] fun cx=>aL tOk 6 51 3 127 19 20 none ⟨(.box 3),[(0,0)],2,false,7,(CV.frzEs (x1.Said.map Say.row))⟩ (x1.Said).length _ kr kr kr kr kr kr kr (zHo _ _) rfl (fun cx=>?_)
  exact bA 1<|lA 1<|fA<|bA 2<|vL [.lend,.rd] (zi n (⟨y2,y3,y4⟩ : Src) [2,2,2,2,3] r9 er9)<|fA<|bA 7<|vL [.lend,.rd] (zL n r9.2 (x1.Said.length : Int) r10 er10)<|fA<|bA 8<|lA 1<|fA<|bA 9<|lA 1<|fA<|eE [4,0] [4,0]
 exact te<|fY [(true,[cI r9.1,cI r10.1])] [(0,(fR (Src.row r10.2)))] H
def zBC (n : Nat) (x0 : Net) (y5 : (List zA)) : Option (Net) :=
  (some (⟨y5,(([] : List Link) ++ x0.Ls),(([] : List Say) ++ x0.Said)⟩ : Net))
def QV (n : Nat) : Nat → Net → Int → (List zA) → Option (((List zA)) ⊕ (Net))
  | 0,_,_,_ => none
  | mo6 + 1,x0,y3,y4 => (bif (decide (y3 < (x0.Bs.length : Int))) then ((idx x0.Bs y3).bind fun v7 => ((Qg n v7).bind fun r8 => (bif (decide (y4.length + [r8].length ≤ 268435456)) then (QV n mo6 x0 (IntKind.wrap .i64 (y3 + 1)) (y4 ++ [r8])) else none))) else (some (Sum.inl y4)))
def zAo (n : Nat) (x0 : Net) : Option (Net) :=
  (bif (decide (([] : List Link).length + x0.Ls.length ≤ 268435456)) then (bif (decide (([] : List Say).length + x0.Said.length ≤ 268435456)) then ((QV n n x0 0 ([] : List zA)).bind fun o => match o with | .inl y5 => (zBC n x0 y5) | .inr r => some r) else none) else none)
def zPN : Tab := ⟨12,[0,1,0,4,0,24,32,64,128,386,1023,2047],[0,1,0,4,0,24,32,64,128,258,0,1536],[0,1,0,4,0,28,60,124,252,511,1023,2047]⟩
theorem zCi : zg (rg Tryz.f143 5) zPN = true := kr
theorem zJl (n : Nat) (x0 : Net) (hg1 : (decide (([] : List Link).length + x0.Ls.length ≤ 268435456)) = true) (hg2 : (decide (([] : List Say).length + x0.Said.length ≤ 268435456)) = true) (cx : Cx) : AT Tryz.prog cx (rg Tryz.f143 1) [] 11 [] ⟨33,0,[sA 2 2 3 0,sA 1 1 3 0],[(2,[cL 11 ([] : List zA) zA.row,cL 4 ([] : List Link) Link.row,cL 7 ([] : List Say) Say.row]),(1,(fR (Net.row x0)))]⟩ (fun s => s = ⟨33,0,[sA 3 3 3 0,sA 2 2 3 0,sA 1 1 3 0],[(3,[cL 11 ([] : List zA) zA.row,cL 4 (([] : List Link) ++ x0.Ls) Link.row,cL 7 (([] : List Say) ++ x0.Said) Say.row]),(2,[cL 11 ([] : List zA) zA.row,cL 4 ([] : List Link) Link.row,cL 7 ([] : List Say) Say.row]),(1,(fR (Net.row x0)))]⟩) := by
 refine aA [(1,[]),(2,[3,7,8,10]),(5,[]),(6,[7,8,10])] 7 [⟨[7,8,10],51,10,11⟩,⟨[3,7,8,10],50,6,7⟩] fun cx=>AT.big3 tOk 0 4 9 kr (And.intro kr ?_) (And.intro kr ?_) (And.intro kr ?_)
 ·refine lA 1<|fA<|AT.big3 tOk 3 4 9 kr (And.intro kr ?_) (And.intro kr ?_) (And.intro kr ?_)
  ·refine pD Link.row hg1<|fA<|AT.big2 tOk 4 9 kr (And.intro kr ?_) (And.intro kr ?_)
   ·refine lA 1<|fA<|AT.big2 tOk 7 9 kr (And.intro kr ?_) (And.intro kr ?_)
    ·refine pD Say.row hg2<|fA<|AT.big2 tOk 8 9 kr (And.intro kr ?_) (And.intro kr ?_)
     ·exact lA 1<|fA<|bA 9<|lA 1<|fA<|bA 10<|lA 1<|fA<|eE [3,2,1] [3,2,1]
     ·exact lA 1<|fA<|bA 8<|lA 1<|fA<|bA 10<|lA 1<|fA<|eE [3,2,1] [3,2,1]
    ·exact lA 1<|fA<|bA 7<|pD Say.row hg2<|fA<|bA 8<|lA 1<|fA<|bA 10<|lA 1<|fA<|eE [3,2,1] [3,2,1]
   ·exact lA 1<|fA<|bA 4<|lA 1<|fA<|bA 7<|pD Say.row hg2<|fA<|bA 8<|lA 1<|fA<|bA 10<|lA 1<|fA<|eE [3,2,1] [3,2,1]
  ·refine lA 1<|fA<|AT.big2 tOk 3 9 kr (And.intro kr ?_) (And.intro kr ?_)
   ·refine pD Link.row hg1<|fA<|AT.big2 tOk 7 9 kr (And.intro kr ?_) (And.intro kr ?_)
    ·refine pD Say.row hg2<|fA<|AT.big2 tOk 8 9 kr (And.intro kr ?_) (And.intro kr ?_)
     ·exact lA 1<|fA<|bA 9<|lA 1<|fA<|bA 10<|lA 1<|fA<|eE [3,2,1] [3,2,1]
     ·exact lA 1<|fA<|bA 8<|lA 1<|fA<|bA 10<|lA 1<|fA<|eE [3,2,1] [3,2,1]
    ·exact lA 1<|fA<|bA 7<|pD Say.row hg2<|fA<|bA 8<|lA 1<|fA<|bA 10<|lA 1<|fA<|eE [3,2,1] [3,2,1]
   ·exact lA 1<|fA<|bA 3<|pD Link.row hg1<|fA<|bA 7<|pD Say.row hg2<|fA<|bA 8<|lA 1<|fA<|bA 10<|lA 1<|fA<|eE [3,2,1] [3,2,1]
  ·refine lA 1<|fA<|AT.big2 tOk 3 4 kr (And.intro kr ?_) (And.intro kr ?_)
   ·exact pD Link.row hg1<|fA<|bA 4<|lA 1<|fA<|bA 7<|pD Say.row hg2<|fA<|bA 8<|lA 1<|fA<|bA 10<|lA 1<|fA<|eE [3,2,1] [3,2,1]
   ·exact lA 1<|fA<|bA 3<|pD Link.row hg1<|fA<|bA 7<|pD Say.row hg2<|fA<|bA 8<|lA 1<|fA<|bA 10<|lA 1<|fA<|eE [3,2,1] [3,2,1]
 ·refine lA 1<|fA<|AT.big2 tOk 0 9 kr (And.intro kr ?_) (And.intro kr ?_)
  ·refine lA 1<|fA<|AT.big2 tOk 3 9 kr (And.intro kr ?_) (And.intro kr ?_)
   ·refine pD Link.row hg1<|fA<|AT.big2 tOk 7 9 kr (And.intro kr ?_) (And.intro kr ?_)
    ·refine pD Say.row hg2<|fA<|AT.big2 tOk 8 9 kr (And.intro kr ?_) (And.intro kr ?_)
     ·exact lA 1<|fA<|bA 9<|lA 1<|fA<|bA 10<|lA 1<|fA<|eE [3,2,1] [3,2,1]
     ·exact lA 1<|fA<|bA 8<|lA 1<|fA<|bA 10<|lA 1<|fA<|eE [3,2,1] [3,2,1]
    ·exact lA 1<|fA<|bA 7<|pD Say.row hg2<|fA<|bA 8<|lA 1<|fA<|bA 10<|lA 1<|fA<|eE [3,2,1] [3,2,1]
   ·exact lA 1<|fA<|bA 3<|pD Link.row hg1<|fA<|bA 7<|pD Say.row hg2<|fA<|bA 8<|lA 1<|fA<|bA 10<|lA 1<|fA<|eE [3,2,1] [3,2,1]
  ·exact lA 1<|fA<|bA 0<|lA 1<|fA<|bA 3<|pD Link.row hg1<|fA<|bA 7<|pD Say.row hg2<|fA<|bA 8<|lA 1<|fA<|bA 10<|lA 1<|fA<|eE [3,2,1] [3,2,1]
 ·refine lA 1<|fA<|AT.big2 tOk 0 4 kr (And.intro kr ?_) (And.intro kr ?_)
  ·refine lA 1<|fA<|AT.big2 tOk 3 4 kr (And.intro kr ?_) (And.intro kr ?_)
   ·exact pD Link.row hg1<|fA<|bA 4<|lA 1<|fA<|bA 7<|pD Say.row hg2<|fA<|bA 8<|lA 1<|fA<|bA 10<|lA 1<|fA<|eE [3,2,1] [3,2,1]
   ·exact lA 1<|fA<|bA 3<|pD Link.row hg1<|fA<|bA 7<|pD Say.row hg2<|fA<|bA 8<|lA 1<|fA<|bA 10<|lA 1<|fA<|eE [3,2,1] [3,2,1]
  ·exact lA 1<|fA<|bA 0<|lA 1<|fA<|bA 3<|pD Link.row hg1<|fA<|bA 7<|pD Say.row hg2<|fA<|bA 8<|lA 1<|fA<|bA 10<|lA 1<|fA<|eE [3,2,1] [3,2,1]
theorem zL4 (n : Nat) (x0 : Net) (r : Net) (H : zAo n x0 = some r) : zJ Tryz.prog 143 [.val true (fR (Net.row x0))] [.val true (Net.row r)] [] := by
 refine cW Tryz.func143 (fun g d => sl [g 0,d 1,sl [g 2] (.block 0 (.loop (sl [sl [g 3] (cn 18 .skip (.exit 0)),.block 1 (d 5)] (g 4)))),g 6] .ret) [.cell 2 53] fun cx=>?_
 unfold zAo at H
 refine gA 2 6 6<|gE H fun hg1 H=> gE H fun hg2 H=> sT ⟨33,0,[sA 2 2 3 0,sA 1 1 3 0],[(2,[cL 11 ([] : List zA) zA.row,cL 4 ([] : List Link) Link.row,cL 7 ([] : List Say) Say.row]),(1,(fR (Net.row x0)))]⟩<|Tr.draws mixed 11 kr ⟨33,0,[sA 3 3 3 0,sA 2 2 3 0,sA 1 1 3 0],[(3,[cL 11 ([] : List zA) zA.row,cL 4 (([] : List Link) ++ x0.Ls) Link.row,cL 7 (([] : List Say) ++ x0.Said) Say.row]),(2,[cL 11 ([] : List zA) zA.row,cL 4 ([] : List Link) Link.row,cL 7 ([] : List Say) Say.row]),(1,(fR (Net.row x0)))]⟩ (zJl n x0 hg1 hg2)<|tS<|gA 1 30 14 ?_
 obtain ⟨o6,eo6,Ho6⟩ := bs H
 clear H
 refine Tr.mid (ι := (List zA)) (fun v => ⟨33,0,[sA 3 3 3 0,sA 2 2 3 0],[(3,[cL 11 v zA.row,cL 4 (([] : List Link) ++ x0.Ls) Link.row,cL 7 (([] : List Say) ++ x0.Said) Say.row]),(2,[cL 11 ([] : List zA) zA.row,cL 4 ([] : List Link) Link.row,cL 7 ([] : List Say) Say.row])]⟩) (fun v => zBC n x0 v = some r) ?_ ?_
 ·refine tB<|Tr.loop (ι := Nat × (Int × (List zA))) (fun v => ⟨33,0,[sI 4 v.2.1,sA 3 3 3 0,sA 2 2 3 0,sA 1 1 3 0],[(3,[cL 11 v.2.2 zA.row,cL 4 (([] : List Link) ++ x0.Ls) Link.row,cL 7 (([] : List Say) ++ x0.Said) Say.row]),(2,[cL 11 ([] : List zA) zA.row,cL 4 ([] : List Link) Link.row,cL 7 ([] : List Say) Say.row]),(1,(fR (Net.row x0)))]⟩) (fun v => QV n v.1 x0 v.2.1 v.2.2 = some o6) (fun v => v.1) (n,(0,([] : List zA))) eo6 (St.sub_of [4,3,2,1] [3,2,1] kr) ?_
  rintro ⟨mo6,y3,y4⟩ H
  have H : QV n mo6 x0 y3 y4 = some o6 := H
  obtain _ | mo6 := mo6
  ·exact nN H
  rw [QV] at H
  refine tS<|rA 3<|kF x0.Bs zA.row<|uA 1 262174 14 ?_
  obtain ⟨h1,H⟩ | ⟨h1,H⟩ := bC H
  ·refine nA h1<|Tr.exit<|aJ ?_
   obtain rfl := si H
   have H := Ho6
   dsimp only at H
   exact jA y4 H [3,2] [3,2]
  refine tA h1<|tK<|tS<|tB<|bE H fun v7 ev7 H=> bE H fun r8 er8 H=> gE H fun hg9 H=> Tr.draw mixed 12 kr ⟨33,0,[sI 4 y3,sA 3 3 3 0,sA 2 2 3 0,sA 1 1 3 0],[(3,[cL 11 (y4 ++ [r8]) zA.row,cL 4 (([] : List Link) ++ x0.Ls) Link.row,cL 7 (([] : List Say) ++ x0.Said) Say.row]),(2,[cL 11 ([] : List zA) zA.row,cL 4 ([] : List Link) Link.row,cL 7 ([] : List Say) Say.row]),(1,(fR (Net.row x0)))]⟩ (fun cx=>?_) ?_
  ·exact mA zCi [(0,[]),(1,[9,11]),(2,[]),(3,[7,8,9,11]),(4,[])] 7 [⟨[7,8,9,11],49,23,24⟩,⟨[9,11],49,21,22⟩] fun cx=>iN zCi 5 zA.row ev7 fun cx=>mA zCi [(6,[])] 5 [⟨[7,8,9,11],49,23,24⟩,⟨[9,11],49,21,22⟩] fun cx=>mC zCi 7<|vA [.rd] (zC3 n v7 r8 er8)<|fA<|mC zCi 8<|lA 1<|fA<|mC zCi 9<|LAt.appMU tOk (t := 49) (ty := 49) (e := 31) (x := (.tmp 22)) (y := (.tmp 29)) (d := 30) (g := none) (tI 31) zA.row y4 [r8] kr kr kr kr kr kr kr kr kr kr hg9<|fA<|mA zCi [(10,[])] 1 [⟨[7,8,9,11],49,23,24⟩,⟨[9,11],49,21,22⟩] fun cx=>mC zCi 11<|lA 1<|fA<|mE zCi [4,3,2,1] [3,2,1]
  exact eA 3 30 14<|jB mo6 ((wI (y3 + 1)),(y4 ++ [r8])) H [4,3,2,1] [3,2,1]
 rintro y5 H
 have H : (zBC n x0 y5) = some r := H
 unfold zBC at H
 exact gA 2 4 4<|te (fJ [(true,[cL 11 y5 zA.row,cL 4 (([] : List Link) ++ x0.Ls) Link.row,cL 7 (([] : List Say) ++ x0.Said) Say.row])] H)
end Go.Proofs.YtajadnlejdpceaaGreat.Tw
