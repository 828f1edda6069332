import Derived.Test.YtibocmoaaahjfaaGreatProg
import Derived.Test.YtibocmoaaahjfaaGreatTlRule
import Derived.Test.YtibocmoaaahjfaaGreatTlU8
import Derived.Test.YtibocmoaaahjfaaGreatTwRS0
import Derived.WalkKit
set_option linter.unusedVariables false
set_option linter.unusedSimpArgs false
set_option maxRecDepth 100000
set_option maxHeartbeats 1000000
namespace Go.Proofs.YtibocmoaaahjfaaGreat.Tw
open Go Go.TL Go.Proofs
def spec_NetOk_J2 (n : Nat) : Option (Bool) :=
  (some true)
def spec_NetOk_L3 (n : Nat) : Nat → Net → Int → Option ((Unit) ⊕ (Bool))
  | 0,_,_ => none
  | mo4 + 1,x0,y3 => (bif (decide (y3 < (x0.Said.length : Int))) then ((idx x0.Said y3).bind fun v5 => ((spec_l1InF n v5.Link 0 (IntKind.wrap .i64 ((x0.Links.length : Int) - 1))).bind fun r6 => (bif (!r6) then (some (Sum.inr false)) else ((idx x0.Said y3).bind fun v7 => ((spec_VecOkF n v7.V).bind fun r8 => (bif (!r8) then (some (Sum.inr false)) else (spec_NetOk_L3 n mo4 x0 (IntKind.wrap .i64 (y3 + 1))))))))) else (some (Sum.inl ())))
def spec_NetOk_J1 (n : Nat) (x0 : Net) : Option (Bool) :=
  ((spec_NetOk_L3 n n x0 0).bind fun o => match o with | .inl _ => (spec_NetOk_J2 n) | .inr r => some r)
def spec_NetOk_L4 (n : Nat) : Nat → Net → Int → Option ((Unit) ⊕ (Bool))
  | 0,_,_ => none
  | mo9 + 1,x0,y2 => (bif (decide (y2 < (x0.Links.length : Int))) then ((idx x0.Links y2).bind fun v10 => (bif (v10.A == v10.B) then (some (Sum.inr false)) else ((spec_l13EndF n x0 v10.A v10.P).bind fun r11 => (bif (!r11) then (some (Sum.inr false)) else ((spec_l13EndF n x0 v10.B v10.Q).bind fun r12 => (bif (!r12) then (some (Sum.inr false)) else ((idx x0.Bridges v10.A).bind fun v13 => ((idx v13.Ports v10.P).bind fun v14 => ((idx x0.Bridges v10.B).bind fun v15 => ((idx v15.Ports v10.Q).bind fun v16 => (bif (!(v14.Up == v16.Up)) then (some (Sum.inr false)) else (spec_NetOk_L4 n mo9 x0 (IntKind.wrap .i64 (y2 + 1)))))))))))))) else (some (Sum.inl ())))
def spec_NetOkF (n : Nat) (x0 : Net) : Option (Bool) :=
  ((spec_l13BridgesF n x0).bind fun r1 => (bif (!r1) then (some false) else (bif (decide ((x0.Links.length : Int) > 9)) then (some false) else (bif (decide ((x0.Said.length : Int) > 40)) then (some false) else ((spec_NetOk_L4 n n x0 0).bind fun o => match o with | .inl _ => (spec_NetOk_J1 n x0) | .inr r => some r)))))
noncomputable abbrev G75 (k : Nat) := Rg Tryz.f75 k
theorem spec_NetOk (n : Nat) (x0 : Net) (r : Bool) (H : spec_NetOkF n x0 = some r) : LCall Tryz.prog 75 [.val true (CV.frzRow (Net.row x0))] [.val false [.lit (.bool r)]] [] := by
 refine LCall.of_body tOk Tryz.func75 rfl (c := (.seq (G75 0) (.seq (.seq (G75 1) (.cond (.tmp 20) (.seq (G75 2) .ret) .skip)) (.seq (.seq (G75 3) (.block 0 (.loop (.seq (.seq (G75 4) (.cond (.tmp 25) .skip (.exit 0))) (.seq (.block 1 (.seq (G75 6) (.seq (Rd Tryz.f75 7) (.cond (.tmp 82) (.seq (G75 8) .ret) .skip)))) (G75 5)))))) (.seq (.seq (G75 9) (.block 2 (.loop (.seq (.seq (G75 10) (.cond (.tmp 87) .skip (.exit 2))) (.seq (.block 3 (.seq (Rd Tryz.f75 12) (.cond (.tmp 111) (.seq (G75 13) .ret) .skip))) (G75 11)))))) (.seq (G75 14) .ret)))))) kr (Nat.le_of_ble_eq_true kr) 0 (rs := [.tmp 2]) rfl [] .nil [(false,[.lit (.bool r)])] [] [] fun cx => ?_
 show Tr _ _ _ ⟨112,0,[sV 0 (CV.frzRow (Net.row x0))],[]⟩ _
 unfold spec_NetOkF at H
 refine tG 2 2 2 kr kr ?_
 refine tS ?_
 refine rU 1 kr ?_
 obtain ⟨r1,er1,H⟩ := bind_some H
 refine lV [.rd] [] (spec_l13Bridges n x0 r1 er1) kr kr kr kr (.inl rfl) ?_
 refine lU 2 kr ?_
 refine lT ⟨112,0,[sB 9 (!r1),sB 8 (!r1),sB 7 r1,sV 6 (CV.frzRow (Net.row x0)),sA 1 1 3 0],[(1,(CV.frzRow (Net.row x0)))]⟩ kr ?_
 cases h1 : (!r1)
 ·have H := bifF h1 H
  refine lU 2 kr ?_
  refine lL 26 3 126 11 12 (some (3,false)) ⟨(.slot 11),[],0,false,4,(CV.frzEs (x0.Links.map Link.row))⟩ (x0.Links).length _ kr kr kr kr kr (frz_len _ _) rfl ?_
  refine lU 3 kr ?_
  refine lT ⟨112,0,[sB 15 (decide ((x0.Links.length : Int) > 9)),sB 14 (decide ((x0.Links.length : Int) > 9)),sB 13 (decide ((x0.Links.length : Int) > 9)),sI 12 (x0.Links.length : Int),sC 11 (cF 4 x0.Links Link.row),sA 10 1 3 1,sB 9 false,sB 8 false,sB 7 r1,sV 6 (CV.frzRow (Net.row x0)),sA 1 1 3 0],[(1,(CV.frzRow (Net.row x0)))]⟩ kr ?_
  cases h2 : (decide ((x0.Links.length : Int) > 9))
  ·have H := bifF h2 H
   refine lU 2 kr ?_
   refine lL 27 3 195 17 18 (some (9,false)) ⟨(.slot 17),[],0,false,7,(CV.frzEs (x0.Said.map Say.row))⟩ (x0.Said).length _ kr kr kr kr kr (frz_len _ _) rfl ?_
   refine uD 2 1048578 2 kr kr ?_
   obtain ⟨h3,H⟩ | ⟨h3,H⟩ := bC H
   ·refine tF h3 kr ?_
    refine tK ?_
    refine tS ?_
    refine tG 1 10 2 kr kr ?_
    obtain ⟨o9,eo9,Ho9⟩ := bind_some H
    clear H
    refine Tr.mid (ι := Unit) (fun v => ⟨112,0,[sA 1 1 3 0],[(1,(CV.frzRow (Net.row x0)))]⟩) (fun v => spec_NetOk_J1 n x0 = some r) ?_ ?_
    ·refine tB ?_
     refine Tr.loop (ι := Nat × (Int)) (fun v => ⟨112,0,[sI 3 v.2,sA 1 1 3 0],[(1,(CV.frzRow (Net.row x0)))]⟩) (fun v => spec_NetOk_L4 n v.1 x0 v.2 = some o9) (fun v => v.1) (n,0) eo9 (St.sub_of [3,1] [1] kr) ?_
     rintro ⟨mo9,y2⟩ H
     have H : spec_NetOk_L4 n mo9 x0 y2 = some o9 := H
     obtain _ | mo9 := mo9
     ·cases (show (none : Option _) = some o9 from H)
     rw [spec_NetOk_L4] at H
     refine tS ?_
     refine rU 3 kr ?_
     refine lL 26 3 126 23 24 none ⟨(.slot 23),[],0,false,4,(CV.frzEs (x0.Links.map Link.row))⟩ (x0.Links).length _ kr kr kr kr kr (frz_len _ _) rfl ?_
     refine uD 1 33554442 2 kr kr ?_
     obtain ⟨h7,H⟩ | ⟨h7,H⟩ := bC H
     ·refine tF h7 kr ?_
      refine Tr.exit ?_
      refine And.intro (fun _ => ?_) (fun h => absurd rfl h)
      obtain rfl := si H
      have H := Ho9
      dsimp only at H
      exact jn () H (sB_ [1] [1] kr)
     refine tT h7 kr ?_
     refine tK ?_
     refine tS ?_
     refine tB ?_
     refine rU 3 kr ?_
     obtain ⟨v10,ev10,H⟩ := bind_some H
     refine lI 26 0 29 30 31 none ⟨(.slot 29),[],0,false,4,(CV.frzEs (x0.Links.map Link.row))⟩ y2 (Link.row v10) _ kr kr kr kr rfl (idx_isF ev10) rfl ?_
     refine uD 3 26 18 kr kr ?_
     refine tO ⟨112,0,[sA 4 4 4 0,sI 3 y2,sA 1 1 3 0],[(4,(Link.row v10)),(1,(CV.frzRow (Net.row x0)))]⟩ kr ?_
     cases h8 : (v10.A == v10.B)
     ·have H := bifF h8 H
      obtain ⟨r11,er11,H⟩ := bind_some H
      refine tO ⟨112,0,[sA 4 4 4 0,sI 3 y2,sA 1 1 3 0],[(4,(Link.row v10)),(1,(CV.frzRow (Net.row x0)))]⟩ kr ?_
      cases h9 : (!r11)
      ·have H := bifF h9 H
       obtain ⟨r12,er12,H⟩ := bind_some H
       refine tO ⟨112,0,[sA 4 4 4 0,sI 3 y2,sA 1 1 3 0],[(4,(Link.row v10)),(1,(CV.frzRow (Net.row x0)))]⟩ kr ?_
       cases h10 : (!r12)
       ·have H := bifF h10 H
        obtain ⟨v13,ev13,H⟩ := bind_some H
        obtain ⟨v14,ev14,H⟩ := bind_some H
        obtain ⟨v15,ev15,H⟩ := bind_some H
        obtain ⟨v16,ev16,H⟩ := bind_some H
        refine Tr.draws mixed 50 kr ⟨112,0,[sB 82 (!(v14.Up == v16.Up)),sI 3 y2,sA 1 1 3 0],[(1,(CV.frzRow (Net.row x0)))]⟩ (fun cx => ?_) ?_
        ·refine aU [(0,[]),(1,[11,20]),(2,[]),(3,[11,20]),(4,[]),(5,[])] 44 [⟨[11,20],3,35,36⟩,⟨[11,20],3,33,34⟩] [5,4,3,2,1,0] rfl kr (fun cx => ?_)
         refine aT ⟨112,0,[sB 38 (v10.A == v10.B),sB 37 (v10.A == v10.B),sI 36 v10.B,sA 35 4 4 2,sI 34 v10.A,sA 33 4 4 0,sA 4 4 4 0,sI 3 y2,sA 1 1 3 0],[(4,(Link.row v10)),(1,(CV.frzRow (Net.row x0)))]⟩ kr ?_
         rw [h8]
         refine aU [(6,[11,20]),(7,[]),(8,[11,20]),(9,[]),(10,[11,20])] 39 [⟨[11,20],3,42,43⟩,⟨[11,20],3,40,41⟩,⟨[11,20],29,1,39⟩,⟨[11,20],3,35,36⟩,⟨[11,20],3,33,34⟩] [10,9,8,7,6,5,4,3,2,1,0] rfl kr (fun cx => ?_)
         refine b1 11 kr kr ?_
         refine lV [.rd,.rd,.rd] [] (spec_l13End n x0 v10.A v10.P r11 er11) kr kr kr kr (.inl rfl) ?_
         refine lF kr kr kr ?_
         refine aU [(12,[]),(13,[]),(14,[])] 35 [⟨[11,20],3,42,43⟩,⟨[11,20],3,40,41⟩,⟨[11,20],29,1,39⟩,⟨[11,20],3,35,36⟩,⟨[11,20],3,33,34⟩] [14,13,12,11,10,9,8,7,6,5,4,3,2,1,0] rfl kr (fun cx => ?_)
         refine aT ⟨112,0,[sB 47 (!r11),sB 46 (!r11),sB 45 (!r11),sB 44 r11,sI 43 v10.P,sA 42 4 4 1,sI 41 v10.A,sA 40 4 4 0,sR 39 1 3 0 3 true,sB 38 false,sB 37 false,sI 36 v10.B,sA 35 4 4 2,sI 34 v10.A,sA 33 4 4 0,sA 4 4 4 0,sI 3 y2,sA 1 1 3 0],[(4,(Link.row v10)),(1,(CV.frzRow (Net.row x0)))]⟩ kr ?_
         rw [h9]
         refine aU [(15,[20]),(16,[]),(17,[20]),(18,[]),(19,[20])] 30 [⟨[20],3,51,52⟩,⟨[20],3,49,50⟩,⟨[20],29,1,48⟩,⟨[11,20],3,42,43⟩,⟨[11,20],3,40,41⟩,⟨[11,20],29,1,39⟩,⟨[11,20],3,35,36⟩,⟨[11,20],3,33,34⟩] [19,18,17,16,15,14,13,12,11,10,9,8,7,6,5,4,3,2,1,0] rfl kr (fun cx => ?_)
         refine b1 20 kr kr ?_
         refine lV [.rd,.rd,.rd] [] (spec_l13End n x0 v10.B v10.Q r12 er12) kr kr kr kr (.inl rfl) ?_
         refine lF kr kr kr ?_
         refine aU [(21,[]),(22,[]),(23,[])] 26 [⟨[20],3,51,52⟩,⟨[20],3,49,50⟩,⟨[20],29,1,48⟩,⟨[11,20],3,42,43⟩,⟨[11,20],3,40,41⟩,⟨[11,20],29,1,39⟩,⟨[11,20],3,35,36⟩,⟨[11,20],3,33,34⟩] [23,22,21,20,19,18,17,16,15,14,13,12,11,10,9,8,7,6,5,4,3,2,1,0] rfl kr (fun cx => ?_)
         refine aT ⟨112,0,[sB 56 (!r12),sB 55 (!r12),sB 54 (!r12),sB 53 r12,sI 52 v10.Q,sA 51 4 4 3,sI 50 v10.B,sA 49 4 4 2,sR 48 1 3 0 3 true,sB 47 false,sB 46 false,sB 45 false,sB 44 r11,sI 43 v10.P,sA 42 4 4 1,sI 41 v10.A,sA 40 4 4 0,sR 39 1 3 0 3 true,sB 38 false,sB 37 false,sI 36 v10.B,sA 35 4 4 2,sI 34 v10.A,sA 33 4 4 0,sA 4 4 4 0,sI 3 y2,sA 1 1 3 0],[(4,(Link.row v10)),(1,(CV.frzRow (Net.row x0)))]⟩ kr ?_
         rw [h10]
         refine aU [(24,[]),(25,[]),(26,[]),(27,[])] 22 [⟨[],3,59,60⟩,⟨[],25,57,58⟩,⟨[20],3,51,52⟩,⟨[20],3,49,50⟩,⟨[20],29,1,48⟩,⟨[11,20],3,42,43⟩,⟨[11,20],3,40,41⟩,⟨[11,20],29,1,39⟩,⟨[11,20],3,35,36⟩,⟨[11,20],3,33,34⟩] [27,26,25,24,23,22,21,20,19,18,17,16,15,14,13,12,11,10,9,8,7,6,5,4,3,2,1,0] rfl kr (fun cx => ?_)
         refine aI 28 25 0 58 60 61 (some (23,false)) ⟨(.box 1),[(0,0)],0,false,11,(CV.frzEs (x0.Bridges.map Bridge.row))⟩ v10.A (CV.frzRow (Bridge.row v13)) _ kr kr kr kr kr kr rfl (idx_isF ev13) rfl (fun cx => ?_)
         refine aU [(29,[]),(30,[]),(31,[]),(32,[])] 17 [⟨[],3,64,65⟩,⟨[],3,59,60⟩,⟨[],25,57,58⟩,⟨[20],3,51,52⟩,⟨[20],3,49,50⟩,⟨[20],29,1,48⟩,⟨[11,20],3,42,43⟩,⟨[11,20],3,40,41⟩,⟨[11,20],29,1,39⟩,⟨[11,20],3,35,36⟩,⟨[11,20],3,33,34⟩] [32,31,30,29,28,27,26,25,24,23,22,21,20,19,18,17,16,15,14,13,12,11,10,9,8,7,6,5,4,3,2,1,0] rfl kr (fun cx => ?_)
         refine aI 33 52 0 63 65 66 (some (23,false)) ⟨(.slot 63),[],0,false,8,(CV.frzEs (v13.Ports.map Pt.row))⟩ v10.P (Pt.row v14) _ kr kr kr kr kr kr rfl (idx_isF ev14) rfl (fun cx => ?_)
         refine aU [(34,[]),(35,[]),(36,[]),(37,[]),(38,[]),(39,[])] 10 [⟨[],3,71,72⟩,⟨[],25,69,70⟩,⟨[],3,64,65⟩,⟨[],3,59,60⟩,⟨[],25,57,58⟩,⟨[20],3,51,52⟩,⟨[20],3,49,50⟩,⟨[20],29,1,48⟩,⟨[11,20],3,42,43⟩,⟨[11,20],3,40,41⟩,⟨[11,20],29,1,39⟩,⟨[11,20],3,35,36⟩,⟨[11,20],3,33,34⟩] [39,38,37,36,35,34,33,32,31,30,29,28,27,26,25,24,23,22,21,20,19,18,17,16,15,14,13,12,11,10,9,8,7,6,5,4,3,2,1,0] rfl kr (fun cx => ?_)
         refine aI 40 25 0 70 72 73 (some (23,false)) ⟨(.box 1),[(0,0)],0,false,11,(CV.frzEs (x0.Bridges.map Bridge.row))⟩ v10.B (CV.frzRow (Bridge.row v15)) _ kr kr kr kr kr kr rfl (idx_isF ev15) rfl (fun cx => ?_)
         refine aU [(41,[]),(42,[]),(43,[]),(44,[])] 5 [⟨[],3,76,77⟩,⟨[],3,71,72⟩,⟨[],25,69,70⟩,⟨[],3,64,65⟩,⟨[],3,59,60⟩,⟨[],25,57,58⟩,⟨[20],3,51,52⟩,⟨[20],3,49,50⟩,⟨[20],29,1,48⟩,⟨[11,20],3,42,43⟩,⟨[11,20],3,40,41⟩,⟨[11,20],29,1,39⟩,⟨[11,20],3,35,36⟩,⟨[11,20],3,33,34⟩] [44,43,42,41,40,39,38,37,36,35,34,33,32,31,30,29,28,27,26,25,24,23,22,21,20,19,18,17,16,15,14,13,12,11,10,9,8,7,6,5,4,3,2,1,0] rfl kr (fun cx => ?_)
         refine aI 45 52 0 75 77 78 (some (23,false)) ⟨(.slot 75),[],0,false,8,(CV.frzEs (v15.Ports.map Pt.row))⟩ v10.Q (Pt.row v16) _ kr kr kr kr kr kr rfl (idx_isF ev16) rfl (fun cx => ?_)
         refine aU [(46,[]),(47,[]),(48,[]),(49,[])] 0 [⟨[],3,76,77⟩,⟨[],3,71,72⟩,⟨[],25,69,70⟩,⟨[],3,64,65⟩,⟨[],3,59,60⟩,⟨[],25,57,58⟩,⟨[20],3,51,52⟩,⟨[20],3,49,50⟩,⟨[20],29,1,48⟩,⟨[11,20],3,42,43⟩,⟨[11,20],3,40,41⟩,⟨[11,20],29,1,39⟩,⟨[11,20],3,35,36⟩,⟨[11,20],3,33,34⟩] [49,48,47,46,45,44,43,42,41,40,39,38,37,36,35,34,33,32,31,30,29,28,27,26,25,24,23,22,21,20,19,18,17,16,15,14,13,12,11,10,9,8,7,6,5,4,3,2,1,0] rfl kr (fun cx => ?_)
         exact AT.done [82,3,1] [1] _ kr kr rfl
        refine tO ⟨112,0,[sB 82 (!(v14.Up == v16.Up)),sI 3 y2,sA 1 1 3 0],[(1,(CV.frzRow (Net.row x0)))]⟩ kr ?_
        cases h11 : (!(v14.Up == v16.Up))
        ·have H := bifF h11 H
         refine tf kr ?_
         refine tK ?_
         refine tE 3 10 2 kr kr ?_
         exact jn (mo9,(w6 (y2 + 1))) H (sM mo9 [3,1] [1] kr)
        have H := bifT h11 H
        refine tt kr ?_
        refine tG 1 4 0 kr kr ?_
        refine te ?_
        obtain rfl := si H
        have H := Ho9
        dsimp only at H
        obtain rfl := si H
        exact fO [(false,[cB false])] kr rfl rfl
       have H := bifT h10 H
       refine Tr.draws mixed 50 kr ⟨112,0,[sB 82 true,sI 3 y2,sA 1 1 3 0],[(1,(CV.frzRow (Net.row x0)))]⟩ (fun cx => ?_) ?_
       ·refine aU [(0,[]),(1,[11,20]),(2,[]),(3,[11,20]),(4,[]),(5,[])] 44 [⟨[11,20],3,35,36⟩,⟨[11,20],3,33,34⟩] [5,4,3,2,1,0] rfl kr (fun cx => ?_)
        refine aT ⟨112,0,[sB 38 (v10.A == v10.B),sB 37 (v10.A == v10.B),sI 36 v10.B,sA 35 4 4 2,sI 34 v10.A,sA 33 4 4 0,sA 4 4 4 0,sI 3 y2,sA 1 1 3 0],[(4,(Link.row v10)),(1,(CV.frzRow (Net.row x0)))]⟩ kr ?_
        rw [h8]
        refine aU [(6,[11,20]),(7,[]),(8,[11,20]),(9,[]),(10,[11,20])] 39 [⟨[11,20],3,42,43⟩,⟨[11,20],3,40,41⟩,⟨[11,20],29,1,39⟩,⟨[11,20],3,35,36⟩,⟨[11,20],3,33,34⟩] [10,9,8,7,6,5,4,3,2,1,0] rfl kr (fun cx => ?_)
        refine b1 11 kr kr ?_
        refine lV [.rd,.rd,.rd] [] (spec_l13End n x0 v10.A v10.P r11 er11) kr kr kr kr (.inl rfl) ?_
        refine lF kr kr kr ?_
        refine aU [(12,[]),(13,[]),(14,[])] 35 [⟨[11,20],3,42,43⟩,⟨[11,20],3,40,41⟩,⟨[11,20],29,1,39⟩,⟨[11,20],3,35,36⟩,⟨[11,20],3,33,34⟩] [14,13,12,11,10,9,8,7,6,5,4,3,2,1,0] rfl kr (fun cx => ?_)
        refine aT ⟨112,0,[sB 47 (!r11),sB 46 (!r11),sB 45 (!r11),sB 44 r11,sI 43 v10.P,sA 42 4 4 1,sI 41 v10.A,sA 40 4 4 0,sR 39 1 3 0 3 true,sB 38 false,sB 37 false,sI 36 v10.B,sA 35 4 4 2,sI 34 v10.A,sA 33 4 4 0,sA 4 4 4 0,sI 3 y2,sA 1 1 3 0],[(4,(Link.row v10)),(1,(CV.frzRow (Net.row x0)))]⟩ kr ?_
        rw [h9]
        refine aU [(15,[20]),(16,[]),(17,[20]),(18,[]),(19,[20])] 30 [⟨[20],3,51,52⟩,⟨[20],3,49,50⟩,⟨[20],29,1,48⟩,⟨[11,20],3,42,43⟩,⟨[11,20],3,40,41⟩,⟨[11,20],29,1,39⟩,⟨[11,20],3,35,36⟩,⟨[11,20],3,33,34⟩] [19,18,17,16,15,14,13,12,11,10,9,8,7,6,5,4,3,2,1,0] rfl kr (fun cx => ?_)
        refine b1 20 kr kr ?_
        refine lV [.rd,.rd,.rd] [] (spec_l13End n x0 v10.B v10.Q r12 er12) kr kr kr kr (.inl rfl) ?_
        refine lF kr kr kr ?_
        refine aU [(21,[]),(22,[]),(23,[])] 26 [⟨[20],3,51,52⟩,⟨[20],3,49,50⟩,⟨[20],29,1,48⟩,⟨[11,20],3,42,43⟩,⟨[11,20],3,40,41⟩,⟨[11,20],29,1,39⟩,⟨[11,20],3,35,36⟩,⟨[11,20],3,33,34⟩] [23,22,21,20,19,18,17,16,15,14,13,12,11,10,9,8,7,6,5,4,3,2,1,0] rfl kr (fun cx => ?_)
        refine aT ⟨112,0,[sB 56 (!r12),sB 55 (!r12),sB 54 (!r12),sB 53 r12,sI 52 v10.Q,sA 51 4 4 3,sI 50 v10.B,sA 49 4 4 2,sR 48 1 3 0 3 true,sB 47 false,sB 46 false,sB 45 false,sB 44 r11,sI 43 v10.P,sA 42 4 4 1,sI 41 v10.A,sA 40 4 4 0,sR 39 1 3 0 3 true,sB 38 false,sB 37 false,sI 36 v10.B,sA 35 4 4 2,sI 34 v10.A,sA 33 4 4 0,sA 4 4 4 0,sI 3 y2,sA 1 1 3 0],[(4,(Link.row v10)),(1,(CV.frzRow (Net.row x0)))]⟩ kr ?_
        rw [h10]
        refine aU [(24,[]),(25,[]),(26,[]),(27,[]),(28,[]),(29,[]),(30,[]),(31,[]),(32,[]),(33,[]),(34,[]),(35,[]),(36,[]),(37,[]),(38,[]),(39,[]),(40,[]),(41,[]),(42,[]),(43,[]),(44,[]),(45,[]),(46,[]),(47,[]),(48,[]),(49,[])] 0 [⟨[20],3,51,52⟩,⟨[20],3,49,50⟩,⟨[20],29,1,48⟩,⟨[11,20],3,42,43⟩,⟨[11,20],3,40,41⟩,⟨[11,20],29,1,39⟩,⟨[11,20],3,35,36⟩,⟨[11,20],3,33,34⟩] [49,48,47,46,45,44,43,42,41,40,39,38,37,36,35,34,33,32,31,30,29,28,27,26,25,24,23,22,21,20,19,18,17,16,15,14,13,12,11,10,9,8,7,6,5,4,3,2,1,0] rfl kr (fun cx => ?_)
        exact AT.done [82,3,1] [1] _ kr kr rfl
       refine tt kr ?_
       refine tG 1 4 0 kr kr ?_
       refine te ?_
       obtain rfl := si H
       have H := Ho9
       dsimp only at H
       obtain rfl := si H
       exact fO [(false,[cB false])] kr rfl rfl
      have H := bifT h9 H
      refine Tr.draws mixed 50 kr ⟨112,0,[sB 82 true,sI 3 y2,sA 1 1 3 0],[(1,(CV.frzRow (Net.row x0)))]⟩ (fun cx => ?_) ?_
      ·refine aU [(0,[]),(1,[11]),(2,[]),(3,[11]),(4,[]),(5,[])] 44 [⟨[11],3,35,36⟩,⟨[11],3,33,34⟩] [5,4,3,2,1,0] rfl kr (fun cx => ?_)
       refine aT ⟨112,0,[sB 38 (v10.A == v10.B),sB 37 (v10.A == v10.B),sI 36 v10.B,sA 35 4 4 2,sI 34 v10.A,sA 33 4 4 0,sA 4 4 4 0,sI 3 y2,sA 1 1 3 0],[(4,(Link.row v10)),(1,(CV.frzRow (Net.row x0)))]⟩ kr ?_
       rw [h8]
       refine aU [(6,[11]),(7,[]),(8,[11]),(9,[]),(10,[11])] 39 [⟨[11],3,42,43⟩,⟨[11],3,40,41⟩,⟨[11],29,1,39⟩,⟨[11],3,35,36⟩,⟨[11],3,33,34⟩] [10,9,8,7,6,5,4,3,2,1,0] rfl kr (fun cx => ?_)
       refine b1 11 kr kr ?_
       refine lV [.rd,.rd,.rd] [] (spec_l13End n x0 v10.A v10.P r11 er11) kr kr kr kr (.inl rfl) ?_
       refine lF kr kr kr ?_
       refine aU [(12,[]),(13,[]),(14,[])] 35 [⟨[11],3,42,43⟩,⟨[11],3,40,41⟩,⟨[11],29,1,39⟩,⟨[11],3,35,36⟩,⟨[11],3,33,34⟩] [14,13,12,11,10,9,8,7,6,5,4,3,2,1,0] rfl kr (fun cx => ?_)
       refine aT ⟨112,0,[sB 47 (!r11),sB 46 (!r11),sB 45 (!r11),sB 44 r11,sI 43 v10.P,sA 42 4 4 1,sI 41 v10.A,sA 40 4 4 0,sR 39 1 3 0 3 true,sB 38 false,sB 37 false,sI 36 v10.B,sA 35 4 4 2,sI 34 v10.A,sA 33 4 4 0,sA 4 4 4 0,sI 3 y2,sA 1 1 3 0],[(4,(Link.row v10)),(1,(CV.frzRow (Net.row x0)))]⟩ kr ?_
       rw [h9]
       refine aU [(15,[]),(16,[]),(17,[]),(18,[]),(19,[]),(20,[]),(21,[]),(22,[]),(23,[]),(24,[]),(25,[]),(26,[]),(27,[]),(28,[]),(29,[]),(30,[]),(31,[]),(32,[]),(33,[]),(34,[]),(35,[]),(36,[]),(37,[]),(38,[]),(39,[]),(40,[]),(41,[]),(42,[]),(43,[]),(44,[]),(45,[]),(46,[]),(47,[]),(48,[]),(49,[])] 0 [⟨[11],3,42,43⟩,⟨[11],3,40,41⟩,⟨[11],29,1,39⟩,⟨[11],3,35,36⟩,⟨[11],3,33,34⟩] [49,48,47,46,45,44,43,42,41,40,39,38,37,36,35,34,33,32,31,30,29,28,27,26,25,24,23,22,21,20,19,18,17,16,15,14,13,12,11,10,9,8,7,6,5,4,3,2,1,0] rfl kr (fun cx => ?_)
       exact AT.done [82,3,1] [1] _ kr kr rfl
      refine tt kr ?_
      refine tG 1 4 0 kr kr ?_
      refine te ?_
      obtain rfl := si H
      have H := Ho9
      dsimp only at H
      obtain rfl := si H
      exact fO [(false,[cB false])] kr rfl rfl
     have H := bifT h8 H
     refine Tr.draws mixed 50 kr ⟨112,0,[sB 82 true,sI 3 y2,sA 1 1 3 0],[(1,(CV.frzRow (Net.row x0)))]⟩ (fun cx => ?_) ?_
     ·refine aU [(0,[]),(1,[]),(2,[]),(3,[]),(4,[]),(5,[])] 44 [⟨[],3,35,36⟩,⟨[],3,33,34⟩] [5,4,3,2,1,0] rfl kr (fun cx => ?_)
      refine aT ⟨112,0,[sB 38 (v10.A == v10.B),sB 37 (v10.A == v10.B),sI 36 v10.B,sA 35 4 4 2,sI 34 v10.A,sA 33 4 4 0,sA 4 4 4 0,sI 3 y2,sA 1 1 3 0],[(4,(Link.row v10)),(1,(CV.frzRow (Net.row x0)))]⟩ kr ?_
      rw [h8]
      refine aU [(6,[]),(7,[]),(8,[]),(9,[]),(10,[]),(11,[]),(12,[]),(13,[]),(14,[]),(15,[]),(16,[]),(17,[]),(18,[]),(19,[]),(20,[]),(21,[]),(22,[]),(23,[]),(24,[]),(25,[]),(26,[]),(27,[]),(28,[]),(29,[]),(30,[]),(31,[]),(32,[]),(33,[]),(34,[]),(35,[]),(36,[]),(37,[]),(38,[]),(39,[]),(40,[]),(41,[]),(42,[]),(43,[]),(44,[]),(45,[]),(46,[]),(47,[]),(48,[]),(49,[])] 0 [⟨[],3,35,36⟩,⟨[],3,33,34⟩] [49,48,47,46,45,44,43,42,41,40,39,38,37,36,35,34,33,32,31,30,29,28,27,26,25,24,23,22,21,20,19,18,17,16,15,14,13,12,11,10,9,8,7,6,5,4,3,2,1,0] rfl kr (fun cx => ?_)
      exact AT.done [82,3,1] [1] _ kr kr rfl
     refine tt kr ?_
     refine tG 1 4 0 kr kr ?_
     refine te ?_
     obtain rfl := si H
     have H := Ho9
     dsimp only at H
     obtain rfl := si H
     exact fO [(false,[cB false])] kr rfl rfl
    rintro _ H
    have H : (spec_NetOk_J1 n x0) = some r := H
    unfold spec_NetOk_J1 at H
    refine tS ?_
    refine tG 1 34 2 kr kr ?_
    obtain ⟨o4,eo4,Ho4⟩ := bind_some H
    clear H
    refine Tr.mid (ι := Unit) (fun v => ⟨112,0,[],[]⟩) (fun v => spec_NetOk_J2 n = some r) ?_ ?_
    ·refine tB ?_
     refine Tr.loop (ι := Nat × (Int)) (fun v => ⟨112,0,[sI 5 v.2,sA 1 1 3 0],[(1,(CV.frzRow (Net.row x0)))]⟩) (fun v => spec_NetOk_L3 n v.1 x0 v.2 = some o4) (fun v => v.1) (n,0) eo4 (St.sub_of [5,1] [1] kr) ?_
     rintro ⟨mo4,y3⟩ H
     have H : spec_NetOk_L3 n mo4 x0 y3 = some o4 := H
     obtain _ | mo4 := mo4
     ·cases (show (none : Option _) = some o4 from H)
     rw [spec_NetOk_L3] at H
     refine tS ?_
     refine rU 3 kr ?_
     refine lL 27 3 195 85 86 none ⟨(.slot 85),[],0,false,7,(CV.frzEs (x0.Said.map Say.row))⟩ (x0.Said).length _ kr kr kr kr kr (frz_len _ _) rfl ?_
     refine uD 1 0x8000000000000000000022 2 kr kr ?_
     obtain ⟨h4,H⟩ | ⟨h4,H⟩ := bC H
     ·refine tF h4 kr ?_
      refine Tr.exit ?_
      refine And.intro (fun _ => ?_) (fun h => absurd rfl h)
      obtain rfl := si H
      have H := Ho4
      dsimp only at H
      exact jn () H (sB_ [] [] kr)
     refine tT h4 kr ?_
     refine tK ?_
     refine tS ?_
     refine tB ?_
     obtain ⟨v5,ev5,H⟩ := bind_some H
     obtain ⟨r6,er6,H⟩ := bind_some H
     refine tO ⟨112,0,[sB 87 (decide (y3 < (x0.Said.length : Int))),sI 5 y3,sA 1 1 3 0],[(1,(CV.frzRow (Net.row x0)))]⟩ kr ?_
     cases h5 : (!r6)
     ·have H := bifF h5 H
      obtain ⟨v7,ev7,H⟩ := bind_some H
      obtain ⟨r8,er8,H⟩ := bind_some H
      refine Tr.draws mixed 22 kr ⟨112,0,[sB 111 (!r8),sI 5 y3,sA 1 1 3 0],[(1,(CV.frzRow (Net.row x0)))]⟩ (fun cx => ?_) ?_
      ·refine aU [(0,[]),(1,[10,19]),(2,[])] 19 [⟨[10,19],27,90,91⟩] [2,1,0] rfl kr (fun cx => ?_)
       refine aI 3 27 0 91 92 93 none ⟨(.box 1),[(0,0)],2,false,7,(CV.frzEs (x0.Said.map Say.row))⟩ y3 (Say.row v5) _ kr kr kr kr kr kr rfl (idx_isF ev5) rfl (fun cx => ?_)
       refine aU [(4,[]),(5,[]),(6,[]),(7,[10,19])] 14 [⟨[10,19],26,96,97⟩,⟨[10,19],27,90,91⟩] [7,6,5,4,3,2,1,0] rfl kr (fun cx => ?_)
       refine aL 8 26 3 126 97 98 none ⟨(.box 1),[(0,0)],1,false,4,(CV.frzEs (x0.Links.map Link.row))⟩ (x0.Links).length _ kr kr kr kr kr kr kr (frz_len _ _) rfl (fun cx => ?_)
       refine aU [(9,[])] 12 [⟨[10,19],26,96,97⟩,⟨[10,19],27,90,91⟩] [9,8,7,6,5,4,3,2,1,0] rfl kr (fun cx => ?_)
       refine b1 10 kr kr ?_
       refine lV [.rd,.rd,.rd] [] (spec_l1In n v5.Link 0 (w6 ((x0.Links.length : Int) - 1)) r6 er6) kr kr kr kr (.inl rfl) ?_
       refine lF kr kr kr ?_
       refine aU [(11,[]),(12,[])] 9 [⟨[10,19],26,96,97⟩,⟨[10,19],27,90,91⟩] [12,11,10,9,8,7,6,5,4,3,2,1,0] rfl kr (fun cx => ?_)
       refine aT ⟨112,0,[sB 102 (!r6),sB 101 (!r6),sB 100 r6,sI 99 (w6 ((x0.Links.length : Int) - 1)),sI 98 (x0.Links.length : Int),sR 97 1 3 1 1 false,sA 96 1 3 1,sI 95 v5.Link,(94,.fad ((Say.row v5))),(93,.fad ((Say.row v5))),sI 92 y3,sR 91 1 3 2 1 false,sA 90 1 3 2,sB 87 (decide (y3 < (x0.Said.length : Int))),sI 5 y3,sA 1 1 3 0],[(1,(CV.frzRow (Net.row x0)))]⟩ kr ?_
       rw [h5]
       refine aU [(13,[]),(14,[19]),(15,[])] 6 [⟨[19],27,103,104⟩,⟨[10,19],26,96,97⟩,⟨[10,19],27,90,91⟩] [15,14,13,12,11,10,9,8,7,6,5,4,3,2,1,0] rfl kr (fun cx => ?_)
       refine aI 16 27 0 104 105 106 (some (12,false)) ⟨(.box 1),[(0,0)],2,false,7,(CV.frzEs (x0.Said.map Say.row))⟩ y3 (Say.row v7) _ kr kr kr kr kr kr rfl (idx_isF ev7) rfl (fun cx => ?_)
       refine aU [(17,[]),(18,[])] 3 [⟨[19],27,103,104⟩,⟨[10,19],26,96,97⟩,⟨[10,19],27,90,91⟩] [18,17,16,15,14,13,12,11,10,9,8,7,6,5,4,3,2,1,0] rfl kr (fun cx => ?_)
       refine b1 19 kr kr ?_
       refine lV [.rd] [] (spec_VecOk n v7.V r8 er8) kr kr kr kr (.inl rfl) ?_
       refine lF kr kr kr ?_
       refine aU [(20,[]),(21,[])] 0 [⟨[19],27,103,104⟩,⟨[10,19],26,96,97⟩,⟨[10,19],27,90,91⟩] [21,20,19,18,17,16,15,14,13,12,11,10,9,8,7,6,5,4,3,2,1,0] rfl kr (fun cx => ?_)
       exact AT.done [111,5,1] [1] _ kr kr rfl
      refine tO ⟨112,0,[sB 111 (!r8),sI 5 y3,sA 1 1 3 0],[(1,(CV.frzRow (Net.row x0)))]⟩ kr ?_
      cases h6 : (!r8)
      ·have H := bifF h6 H
       refine tf kr ?_
       refine tK ?_
       refine tE 3 34 2 kr kr ?_
       exact jn (mo4,(w6 (y3 + 1))) H (sM mo4 [5,1] [1] kr)
      have H := bifT h6 H
      refine tt kr ?_
      refine tG 1 4 0 kr kr ?_
      refine te ?_
      obtain rfl := si H
      have H := Ho4
      dsimp only at H
      obtain rfl := si H
      exact fO [(false,[cB false])] kr rfl rfl
     have H := bifT h5 H
     refine Tr.draws mixed 22 kr ⟨112,0,[sB 111 true,sI 5 y3,sA 1 1 3 0],[(1,(CV.frzRow (Net.row x0)))]⟩ (fun cx => ?_) ?_
     ·refine aU [(0,[]),(1,[10]),(2,[])] 19 [⟨[10],27,90,91⟩] [2,1,0] rfl kr (fun cx => ?_)
      refine aI 3 27 0 91 92 93 none ⟨(.box 1),[(0,0)],2,false,7,(CV.frzEs (x0.Said.map Say.row))⟩ y3 (Say.row v5) _ kr kr kr kr kr kr rfl (idx_isF ev5) rfl (fun cx => ?_)
      refine aU [(4,[]),(5,[]),(6,[]),(7,[10])] 14 [⟨[10],26,96,97⟩,⟨[10],27,90,91⟩] [7,6,5,4,3,2,1,0] rfl kr (fun cx => ?_)
      refine aL 8 26 3 126 97 98 none ⟨(.box 1),[(0,0)],1,false,4,(CV.frzEs (x0.Links.map Link.row))⟩ (x0.Links).length _ kr kr kr kr kr kr kr (frz_len _ _) rfl (fun cx => ?_)
      refine aU [(9,[])] 12 [⟨[10],26,96,97⟩,⟨[10],27,90,91⟩] [9,8,7,6,5,4,3,2,1,0] rfl kr (fun cx => ?_)
      refine b1 10 kr kr ?_
      refine lV [.rd,.rd,.rd] [] (spec_l1In n v5.Link 0 (w6 ((x0.Links.length : Int) - 1)) r6 er6) kr kr kr kr (.inl rfl) ?_
      refine lF kr kr kr ?_
      refine aU [(11,[]),(12,[])] 9 [⟨[10],26,96,97⟩,⟨[10],27,90,91⟩] [12,11,10,9,8,7,6,5,4,3,2,1,0] rfl kr (fun cx => ?_)
      refine aT ⟨112,0,[sB 102 (!r6),sB 101 (!r6),sB 100 r6,sI 99 (w6 ((x0.Links.length : Int) - 1)),sI 98 (x0.Links.length : Int),sR 97 1 3 1 1 false,sA 96 1 3 1,sI 95 v5.Link,(94,.fad ((Say.row v5))),(93,.fad ((Say.row v5))),sI 92 y3,sR 91 1 3 2 1 false,sA 90 1 3 2,sB 87 (decide (y3 < (x0.Said.length : Int))),sI 5 y3,sA 1 1 3 0],[(1,(CV.frzRow (Net.row x0)))]⟩ kr ?_
      rw [h5]
      refine aU [(13,[]),(14,[]),(15,[]),(16,[]),(17,[]),(18,[]),(19,[]),(20,[]),(21,[])] 0 [⟨[10],26,96,97⟩,⟨[10],27,90,91⟩] [21,20,19,18,17,16,15,14,13,12,11,10,9,8,7,6,5,4,3,2,1,0] rfl kr (fun cx => ?_)
      exact AT.done [111,5,1] [1] _ kr kr rfl
     refine tt kr ?_
     refine tG 1 4 0 kr kr ?_
     refine te ?_
     obtain rfl := si H
     have H := Ho4
     dsimp only at H
     obtain rfl := si H
     exact fO [(false,[cB false])] kr rfl rfl
    rintro _ H
    have H : (spec_NetOk_J2 n) = some r := H
    unfold spec_NetOk_J2 at H
    refine tG 1 4 0 kr kr ?_
    exact te (by obtain rfl := si H; exact fO [(false,[cB true])] kr rfl rfl)
   refine tT h3 kr ?_
   refine tG 1 4 0 kr kr ?_
   exact te (by obtain rfl := si H; exact fO [(false,[cB false])] kr rfl rfl)
  have H := bifT h2 H
  refine uD 5 1048578 2 kr kr ?_
  refine tt kr ?_
  refine tG 1 4 0 kr kr ?_
  exact te (by obtain rfl := si H; exact fO [(false,[cB false])] kr rfl rfl)
 have H := bifT h1 H
 refine uD 11 1048578 2 kr kr ?_
 refine tt kr ?_
 refine tG 1 4 0 kr kr ?_
 exact te (by obtain rfl := si H; exact fO [(false,[cB false])] kr rfl rfl)
def spec_l13UpF (n : Nat) (x0 : Net) (x1 : Int) (x2 : Int) : Option (Bool) :=
  ((spec_l1InF n x1 0 (IntKind.wrap .i64 ((x0.Bridges.length : Int) - 1))).bind fun r1 => (bif r1 then ((idx x0.Bridges x1).bind fun v2 => ((spec_l1InF n x2 0 (IntKind.wrap .i64 ((v2.Ports.length : Int) - 1))).bind fun r3 => (bif r3 then ((idx x0.Bridges x1).bind fun v4 => ((idx v4.Ports x2).bind fun v5 => (some v5.Up))) else (some false)))) else (some false)))
theorem spec_l13Up (n : Nat) (x0 : Net) (x1 : Int) (x2 : Int) (r : Bool) (H : spec_l13UpF n x0 x1 x2 = some r) : LCall Tryz.prog 179 [.val true (CV.frzRow (Net.row x0)),.val false [.lit (.int .i64 x1)],.val false [.lit (.int .i64 x2)]] [.val false [.lit (.bool r)]] [] := by
 refine LCall.of_body tOk Tryz.func179 rfl (c := (.seq (Rg Tryz.f179 0) (.seq (Rg Tryz.f179 1) .ret))) kr (Nat.le_of_ble_eq_true kr) 0 (rs := [.tmp 6]) rfl [] .nil [(false,[.lit (.bool r)])] [] [] fun cx => ?_
 show Tr _ _ _ ⟨37,0,[sV 0 (CV.frzRow (Net.row x0)),sI 1 x1,sI 2 x2],[]⟩ _
 unfold spec_l13UpF at H
 refine tG 2 14 8 kr kr ?_
 refine rU 3 kr ?_
 refine lL 25 3 58 9 10 none ⟨(.slot 9),[],0,false,11,(CV.frzEs (x0.Bridges.map Bridge.row))⟩ (x0.Bridges).length _ kr kr kr kr kr (frz_len _ _) rfl ?_
 refine lU 1 kr ?_
 obtain ⟨r1,er1,H⟩ := bind_some H
 refine lV [.rd,.rd,.rd] [] (spec_l1In n x1 0 (w6 ((x0.Bridges.length : Int) - 1)) r1 er1) kr kr kr kr (.inl rfl) ?_
 refine lU 1 kr ?_
 refine lT ⟨37,0,[sB 13 r1,sB 12 r1,sI 11 (w6 ((x0.Bridges.length : Int) - 1)),sI 10 (x0.Bridges.length : Int),sC 9 (cF 11 x0.Bridges Bridge.row),sA 8 3 3 0,sI 7 x1,sA 3 3 3 0,sI 1 x1,sI 2 x2],[(3,(CV.frzRow (Net.row x0)))]⟩ kr ?_
 cases h1 : r1
 ·have H := bifF h1 H
  refine uD 24 64 0 kr kr ?_
  exact te (by obtain rfl := si H; exact fO [(false,[cB false])] kr rfl rfl)
 have H := bifT h1 H
 refine lU 4 kr ?_
 obtain ⟨v2,ev2,H⟩ := bind_some H
 refine lI 25 0 16 17 18 (some (6,true)) ⟨(.slot 16),[],0,false,11,(CV.frzEs (x0.Bridges.map Bridge.row))⟩ x1 (CV.frzRow (Bridge.row v2)) _ kr kr kr kr rfl (idx_isF ev2) rfl ?_
 refine lU 2 kr ?_
 refine lL 52 3 182 20 21 (some (6,true)) ⟨(.slot 20),[],0,false,8,(CV.frzEs (v2.Ports.map Pt.row))⟩ (v2.Ports).length _ kr kr kr kr kr (frz_len _ _) rfl ?_
 refine lU 1 kr ?_
 obtain ⟨r3,er3,H⟩ := bind_some H
 refine lV [.rd,.rd,.rd] [] (spec_l1In n x2 0 (w6 ((v2.Ports.length : Int) - 1)) r3 er3) kr kr kr kr (.inl rfl) ?_
 refine lU 2 kr ?_
 refine lT ⟨37,0,[sB 25 r3,sB 24 r3,sB 23 r3,sI 22 (w6 ((v2.Ports.length : Int) - 1)),sI 21 (v2.Ports.length : Int),sC 20 (cF 8 v2.Ports Pt.row),(19,.fad (((CV.frzRow (Bridge.row v2)).drop 2))),(18,.fad ((CV.frzRow (Bridge.row v2)))),sI 17 x1,sC 16 (cF 11 x0.Bridges Bridge.row),sA 15 3 3 0,sI 14 x2,sB 13 true,sB 12 true,sI 11 (w6 ((x0.Bridges.length : Int) - 1)),sI 10 (x0.Bridges.length : Int),sC 9 (cF 11 x0.Bridges Bridge.row),sA 8 3 3 0,sI 7 x1,sA 3 3 3 0,sI 1 x1,sI 2 x2],[(3,(CV.frzRow (Net.row x0)))]⟩ kr ?_
 cases h2 : r3
 ·have H := bifF h2 H
  refine uD 12 64 0 kr kr ?_
  exact te (by obtain rfl := si H; exact fO [(false,[cB false])] kr rfl rfl)
 have H := bifT h2 H
 refine lU 3 kr ?_
 obtain ⟨v4,ev4,H⟩ := bind_some H
 refine lI 25 0 27 28 29 (some (18,true)) ⟨(.slot 27),[],0,false,11,(CV.frzEs (x0.Bridges.map Bridge.row))⟩ x1 (CV.frzRow (Bridge.row v4)) _ kr kr kr kr rfl (idx_isF ev4) rfl ?_
 refine lU 3 kr ?_
 obtain ⟨v5,ev5,H⟩ := bind_some H
 refine lI 52 0 31 32 33 (some (18,true)) ⟨(.slot 31),[],0,false,8,(CV.frzEs (v4.Ports.map Pt.row))⟩ x2 (Pt.row v5) _ kr kr kr kr rfl (idx_isF ev5) rfl ?_
 refine uD 4 64 0 kr kr ?_
 exact te (by obtain rfl := si H; exact fO [(false,[cB v5.Up])] kr rfl rfl)
def spec_LinkUpF (n : Nat) (x0 : Net) (x1 : Int) : Option (Bool) :=
  ((spec_l1InF n x1 0 (IntKind.wrap .i64 ((x0.Links.length : Int) - 1))).bind fun r1 => (bif (!r1) then (some false) else ((idx x0.Links x1).bind fun v2 => ((spec_l13UpF n x0 v2.A v2.P).bind fun r3 => (bif r3 then ((spec_l13UpF n x0 v2.B v2.Q).bind fun r4 => (some r4)) else (some false))))))
noncomputable abbrev G77 (k : Nat) := Rg Tryz.f77 k
theorem spec_LinkUp (n : Nat) (x0 : Net) (x1 : Int) (r : Bool) (H : spec_LinkUpF n x0 x1 = some r) : LCall Tryz.prog 77 [.val true (CV.frzRow (Net.row x0)),.val false [.lit (.int .i64 x1)]] [.val false [.lit (.bool r)]] [] := by
 refine LCall.of_body tOk Tryz.func77 rfl (c := (.seq (G77 0) (.seq (.seq (G77 1) (.cond (.tmp 12) (.seq (G77 2) .ret) .skip)) (.seq (G77 3) (.seq (G77 4) .ret))))) kr (Nat.le_of_ble_eq_true kr) 0 (rs := [.tmp 4]) rfl [] .nil [(false,[.lit (.bool r)])] [] [] fun cx => ?_
 show Tr _ _ _ ⟨32,0,[sV 0 (CV.frzRow (Net.row x0)),sI 1 x1],[]⟩ _
 unfold spec_LinkUpF at H
 refine tG 2 6 4 kr kr ?_
 refine tS ?_
 refine rU 3 kr ?_
 refine lL 26 3 126 8 9 none ⟨(.slot 8),[],0,false,4,(CV.frzEs (x0.Links.map Link.row))⟩ (x0.Links).length _ kr kr kr kr kr (frz_len _ _) rfl ?_
 refine lU 1 kr ?_
 obtain ⟨r1,er1,H⟩ := bind_some H
 refine lV [.rd,.rd,.rd] [] (spec_l1In n x1 0 (w6 ((x0.Links.length : Int) - 1)) r1 er1) kr kr kr kr (.inl rfl) ?_
 refine uD 1 4102 4 kr kr ?_
 obtain ⟨h1,H⟩ | ⟨h1,H⟩ := bC H
 ·refine tF h1 kr ?_
  refine tK ?_
  refine rU 3 kr ?_
  obtain ⟨v2,ev2,H⟩ := bind_some H
  refine lI 26 0 14 15 16 none ⟨(.slot 14),[],0,false,4,(CV.frzEs (x0.Links.map Link.row))⟩ x1 (Link.row v2) _ kr kr kr kr rfl (idx_isF ev2) rfl ?_
  refine uD 3 36 36 kr kr ?_
  refine rU 5 kr ?_
  obtain ⟨r3,er3,H⟩ := bind_some H
  refine lV [.rd,.rd,.rd] [] (spec_l13Up n x0 v2.A v2.P r3 er3) kr kr kr kr (.inl rfl) ?_
  refine lU 1 kr ?_
  refine lT ⟨32,0,[sB 24 r3,sB 23 r3,sI 22 v2.P,sA 21 5 4 1,sI 20 v2.A,sA 19 5 4 0,sV 18 (CV.frzRow (Net.row x0)),sA 5 5 4 0,sA 2 2 3 0],[(5,(Link.row v2)),(2,(CV.frzRow (Net.row x0)))]⟩ kr ?_
  cases h2 : r3
  ·have H := bifF h2 H
   refine uD 8 16 0 kr kr ?_
   exact te (by obtain rfl := si H; exact fO [(false,[cB false])] kr rfl rfl)
  have H := bifT h2 H
  refine lU 5 kr ?_
  obtain ⟨r4,er4,H⟩ := bind_some H
  refine lV [.rd,.rd,.rd] [] (spec_l13Up n x0 v2.B v2.Q r4 er4) kr kr kr kr (.inl rfl) ?_
  refine uD 2 16 0 kr kr ?_
  exact te (by obtain rfl := si H; exact fO [(false,[cB r4])] kr rfl rfl)
 refine tT h1 kr ?_
 refine tG 1 16 0 kr kr ?_
 exact te (by obtain rfl := si H; exact fO [(false,[cB false])] kr rfl rfl)
def spec_StepVecF (n : Nat) (x0 : Vec) (x1 : Int) : Option (Vec × Bool) :=
  ((spec_VecOkF n x0).bind fun r1 => (bif (!r1) then (some (x0,false)) else ((spec_l1InF n x1 1 1000).bind fun r2 => (bif (!r2) then (some (x0,false)) else ((spec_VecOkF n (⟨x0.Root,(IntKind.wrap .i64 (x0.Cost + x1)),(IntKind.wrap .i64 (x0.Hops + 1)),x0.Bridge,x0.Port⟩ : Vec)).bind fun r3 => (bif (!r3) then (some (x0,false)) else (some ((⟨x0.Root,(IntKind.wrap .i64 (x0.Cost + x1)),(IntKind.wrap .i64 (x0.Hops + 1)),x0.Bridge,x0.Port⟩ : Vec),true))))))))
noncomputable abbrev G260 (k : Nat) := Rg Tryz.f260 k
theorem spec_StepVec (n : Nat) (x0 : Vec) (x1 : Int) (r : Vec × Bool) (H : spec_StepVecF n x0 x1 = some r) : LCall Tryz.prog 260 [.val true (CV.frzRow (Vec.row x0)),.val false [.lit (.int .i64 x1)]] [.val true (Vec.row r.1),.val false [.lit (.bool r.2)]] [] := by
 refine LCall.of_body tOk Tryz.func260 rfl (c := (.seq (G260 0) (.seq (.seq (G260 1) (.cond (.tmp 14) (.seq (G260 2) .ret) .skip)) (.seq (G260 3) (.seq (G260 4) (.seq (G260 5) (.seq (.seq (G260 6) (.cond (.tmp 28) (.seq (G260 7) .ret) .skip)) (.seq (G260 8) .ret)))))))) kr (Nat.le_of_ble_eq_true kr) 0 (rs := [.cell 4 162,.tmp 5]) rfl [] .nil [(true,(Vec.row r.1)),(false,[.lit (.bool r.2)])] [] [] fun cx => ?_
 show Tr _ _ _ ⟨31,0,[sV 0 (Vec.row x0),sI 1 x1],[]⟩ _
 unfold spec_StepVecF at H
 refine tG 3 22 20 kr kr ?_
 refine tS ?_
 refine rU 1 kr ?_
 obtain ⟨r1,er1,H⟩ := bind_some H
 refine lV [.rd] [] (spec_VecOk n x0 r1 er1) kr kr kr kr (.inl rfl) ?_
 refine lU 2 kr ?_
 refine lT ⟨31,0,[sB 10 (!r1),sB 9 (!r1),sB 8 r1,sV 7 (Vec.row x0),sA 4 4 5 0,sA 2 2 5 0,sI 1 x1],[(4,[cI 0,cI 0,cI 0,cI 0,cI 0]),(2,(Vec.row x0))]⟩ kr ?_
 cases h1 : (!r1)
 ·have H := bifF h1 H
  refine lU 1 kr ?_
  obtain ⟨r2,er2,H⟩ := bind_some H
  refine lV [.rd,.rd,.rd] [] (spec_l1In n x1 1 1000 r2 er2) kr kr kr kr (.inl rfl) ?_
  refine uD 2 16406 20 kr kr ?_
  obtain ⟨h2,H⟩ | ⟨h2,H⟩ := bC H
  ·refine tF h2 kr ?_
   refine tK ?_
   refine tG 3 86 84 kr kr ?_
   refine tG 6 84 84 kr kr ?_
   refine tG 5 84 84 kr kr ?_
   refine tS ?_
   refine rU 1 kr ?_
   obtain ⟨r3,er3,H⟩ := bind_some H
   refine lV [.rd] [] (spec_VecOk n (⟨x0.Root,(w6 (x0.Cost + x1)),(w6 (x0.Hops + 1)),x0.Bridge,x0.Port⟩ : Vec) r3 er3) kr kr kr kr (.inl rfl) ?_
   refine uD 1 268435540 84 kr kr ?_
   obtain ⟨h3,H⟩ | ⟨h3,H⟩ := bC H
   ·refine tF h3 kr ?_
    refine tK ?_
    refine tG 3 48 16 kr kr ?_
    exact te (by obtain rfl := si H; exact fO [(true,[cI x0.Root,cI (w6 (x0.Cost + x1)),cI (w6 (x0.Hops + 1)),cI x0.Bridge,cI x0.Port]),(false,[cB true])] kr rfl rfl)
   refine tT h3 kr ?_
   refine tG 3 48 16 kr kr ?_
   exact te (by obtain rfl := si H; exact fO [(true,(Vec.row x0)),(false,[cB false])] kr rfl rfl)
  refine tT h2 kr ?_
  refine tG 3 48 16 kr kr ?_
  exact te (by obtain rfl := si H; exact fO [(true,(Vec.row x0)),(false,[cB false])] kr rfl rfl)
 have H := bifT h1 H
 refine uD 4 16406 20 kr kr ?_
 refine tt kr ?_
 refine tG 3 48 16 kr kr ?_
 exact te (by obtain rfl := si H; exact fO [(true,(Vec.row x0)),(false,[cB false])] kr rfl rfl)
def spec_LessVecF (n : Nat) (x0 : Vec) (x1 : Vec) : Option (Bool) :=
  (bif (x0.Root != x1.Root) then (some (decide (x0.Root < x1.Root))) else (bif (x0.Cost != x1.Cost) then (some (decide (x0.Cost < x1.Cost))) else (bif (x0.Bridge != x1.Bridge) then (some (decide (x0.Bridge < x1.Bridge))) else (some (decide (x0.Port < x1.Port))))))
noncomputable abbrev G243 (k : Nat) := Rg Tryz.f243 k
theorem spec_LessVec (n : Nat) (x0 : Vec) (x1 : Vec) (r : Bool) (H : spec_LessVecF n x0 x1 = some r) : LCall Tryz.prog 243 [.val true (CV.frzRow (Vec.row x0)),.val true (CV.frzRow (Vec.row x1))] [.val false [.lit (.bool r)]] [] := by
 refine LCall.of_body tOk Tryz.func243 rfl (c := (.seq (G243 0) (.seq (.block 0 (.seq (G243 1) (.cond (.tmp 5) (.seq (G243 2) .ret) (.seq (G243 3) (.cond (.tmp 16) (.seq (G243 4) .ret) (.seq (G243 5) (.cond (.tmp 27) (.seq (G243 6) .ret) .skip))))))) (.seq (G243 7) .ret)))) kr (Nat.le_of_ble_eq_true kr) 0 (rs := [.tmp 4]) rfl [] .nil [(false,[.lit (.bool r)])] [] [] fun cx => ?_
 show Tr _ _ _ ⟨43,0,[sV 0 (Vec.row x0),sV 1 (Vec.row x1)],[]⟩ _
 unfold spec_LessVecF at H
 refine tG 3 12 12 kr kr ?_
 refine tS ?_
 refine tB ?_
 refine tG 6 44 12 kr kr ?_
 obtain ⟨h1,H⟩ | ⟨h1,H⟩ := bC H
 ·refine tF h1 kr ?_
  refine tG 6 65548 12 kr kr ?_
  obtain ⟨h2,H⟩ | ⟨h2,H⟩ := bC H
  ·refine tF h2 kr ?_
   refine tG 6 134217740 12 kr kr ?_
   obtain ⟨h3,H⟩ | ⟨h3,H⟩ := bC H
   ·refine tF h3 kr ?_
    refine tK ?_
    refine tG 6 16 0 kr kr ?_
    exact te (by obtain rfl := si H; exact fO [(false,[cB (decide (x0.Port < x1.Port))])] kr rfl rfl)
   refine tT h3 kr ?_
   refine tG 6 16 0 kr kr ?_
   exact te (by obtain rfl := si H; exact fO [(false,[cB (decide (x0.Bridge < x1.Bridge))])] kr rfl rfl)
  refine tT h2 kr ?_
  refine tG 6 16 0 kr kr ?_
  exact te (by obtain rfl := si H; exact fO [(false,[cB (decide (x0.Cost < x1.Cost))])] kr rfl rfl)
 refine tT h1 kr ?_
 refine tG 6 16 0 kr kr ?_
 exact te (by obtain rfl := si H; exact fO [(false,[cB (decide (x0.Root < x1.Root))])] kr rfl rfl)
def spec_BestVec_J1 (n : Nat) (x0 : Int) (y11 : Int) (y12 : Int) (y13 : Int) (y14 : Int) : Option (Vec × Int) :=
  (some ((⟨y12,y13,y14,x0,0⟩ : Vec),y11))
def spec_BestVec_J3 (n : Nat) (k : (Int × Int × Int × Int × Int × Int × Int × Int × Int × Int → Option ((Int × Int × Int × Int) ⊕ (Vec × Int)))) (r20 : Vec × Bool) (y1 : Int) (y10 : Int) (y2 : Int) (y3 : Int) (y4 : Int) (y5 : Int) (y6 : Int) (y7 : Int) (y8 : Int) (y9 : Int) (y21 : Bool) (y22 : Bool) (y23 : Bool) (y24 : Bool) (y25 : Bool) (y26 : Bool) (y27 : Bool) : Option ((Int × Int × Int × Int) ⊕ (Vec × Int)) :=
  (bif y21 then (k ((IntKind.wrap .i64 (y1 + 1)),y1,r20.1.Root,r20.1.Cost,r20.1.Hops,r20.1.Bridge,r20.1.Port,r20.1.Root,r20.1.Cost,r20.1.Hops)) else (k ((IntKind.wrap .i64 (y1 + 1)),y2,y3,y4,y5,y6,y7,y8,y9,y10)))
def spec_BestVec_L2 (n : Nat) : Nat → Int → (List Pt) → Int → Int → Int → Int → Int → Int → Int → Int → Int → Int → Option ((Int × Int × Int × Int) ⊕ (Vec × Int))
  | 0,_,_,_,_,_,_,_,_,_,_,_,_ => none
  | mo15 + 1,x0,x1,y1,y2,y3,y4,y5,y6,y7,y8,y9,y10 => (bif (decide (y1 < (x1.length : Int))) then ((idx x1 y1).bind fun v16 => (bif (!v16.Up) then (spec_BestVec_L2 n mo15 x0 x1 (IntKind.wrap .i64 (y1 + 1)) y2 y3 y4 y5 y6 y7 y8 y9 y10) else ((idx x1 y1).bind fun v17 => (bif (!v17.Has) then (spec_BestVec_L2 n mo15 x0 x1 (IntKind.wrap .i64 (y1 + 1)) y2 y3 y4 y5 y6 y7 y8 y9 y10) else ((idx x1 y1).bind fun v18 => ((idx x1 y1).bind fun v19 => ((spec_StepVecF n v18.Heard v19.Cost).bind fun r20 => (bif r20.2 then (bif (decide (r20.1.Root < x0)) then (bif (decide (y2 < 0)) then (spec_BestVec_J3 n (fun v => spec_BestVec_L2 n mo15 x0 x1 v.1 v.2.1 v.2.2.1 v.2.2.2.1 v.2.2.2.2.1 v.2.2.2.2.2.1 v.2.2.2.2.2.2.1 v.2.2.2.2.2.2.2.1 v.2.2.2.2.2.2.2.2.1 v.2.2.2.2.2.2.2.2.2) r20 y1 y10 y2 y3 y4 y5 y6 y7 y8 y9 true true true true true true true) else ((spec_LessVecF n r20.1 (⟨y3,y4,y5,y6,y7⟩ : Vec)).bind fun r28 => (spec_BestVec_J3 n (fun v => spec_BestVec_L2 n mo15 x0 x1 v.1 v.2.1 v.2.2.1 v.2.2.2.1 v.2.2.2.2.1 v.2.2.2.2.2.1 v.2.2.2.2.2.2.1 v.2.2.2.2.2.2.2.1 v.2.2.2.2.2.2.2.2.1 v.2.2.2.2.2.2.2.2.2) r20 y1 y10 y2 y3 y4 y5 y6 y7 y8 y9 r28 true true true true true true))) else (spec_BestVec_J3 n (fun v => spec_BestVec_L2 n mo15 x0 x1 v.1 v.2.1 v.2.2.1 v.2.2.2.1 v.2.2.2.2.1 v.2.2.2.2.2.1 v.2.2.2.2.2.2.1 v.2.2.2.2.2.2.2.1 v.2.2.2.2.2.2.2.2.1 v.2.2.2.2.2.2.2.2.2) r20 y1 y10 y2 y3 y4 y5 y6 y7 y8 y9 false false false true true true true)) else (spec_BestVec_J3 n (fun v => spec_BestVec_L2 n mo15 x0 x1 v.1 v.2.1 v.2.2.1 v.2.2.2.1 v.2.2.2.2.1 v.2.2.2.2.2.1 v.2.2.2.2.2.2.1 v.2.2.2.2.2.2.2.1 v.2.2.2.2.2.2.2.2.1 v.2.2.2.2.2.2.2.2.2) r20 y1 y10 y2 y3 y4 y5 y6 y7 y8 y9 false false false false false false false))))))))) else (some (Sum.inl (y2,y8,y9,y10))))
def spec_BestVecF (n : Nat) (x0 : Int) (x1 : (List Pt)) : Option (Vec × Int) :=
  ((spec_BestVec_L2 n n x0 x1 0 (-1) 0 0 0 0 0 x0 0 0).bind fun o => match o with | .inl (y11,y12,y13,y14) => (spec_BestVec_J1 n x0 y11 y12 y13 y14) | .inr r => some r)
noncomputable abbrev G242 (k : Nat) := Rg Tryz.f242 k
theorem spec_BestVec (n : Nat) (x0 : Int) (x1 : (List Pt)) (r : Vec × Int) (H : spec_BestVecF n x0 x1 = some r) : LCall Tryz.prog 242 [.val false [.lit (.int .i64 x0)],.val false [.sl false 8 (CV.frzEs (x1.map Pt.row))]] [.val true (Vec.row r.1),.val false [.lit (.int .i64 r.2)]] [] := by
 refine LCall.of_body tOk Tryz.func242 rfl (c := (.seq (G242 0) (.seq (G242 1) (.seq (G242 2) (.seq (G242 3) (.seq (.seq (G242 4) (.block 0 (.loop (.seq (.seq (G242 5) (.cond (.tmp 19) .skip (.exit 0))) (.seq (.block 1 (.seq (.seq (G242 7) (.cond (.tmp 35) (.exit 1) .skip)) (.seq (Rd Tryz.f242 8) (.seq (G242 9) (.cond (.tmp 65) (.seq (G242 10) (.seq (G242 11) (G242 12))) .skip))))) (G242 6)))))) (.seq (G242 13) .ret))))))) kr (Nat.le_of_ble_eq_true kr) 0 (rs := [.cell 4 162,.tmp 5]) rfl [] .nil [(true,(Vec.row r.1)),(false,[.lit (.int .i64 r.2)])] [] [] fun cx => ?_
 show Tr _ _ _ ⟨78,0,[sI 0 x0,sC 1 (cF 8 x1 Pt.row)],[]⟩ _
 unfold spec_BestVecF at H
 refine tG 2 51 16 kr kr ?_
 refine tG 5 115 80 kr kr ?_
 refine tG 3 243 208 kr kr ?_
 refine tG 1 499 208 kr kr ?_
 refine tS ?_
 refine tG 1 1011 208 kr kr ?_
 obtain ⟨o15,eo15,Ho15⟩ := bind_some H
 clear H
 refine Tr.mid (ι := Int × Int × Int × Int) (fun v => ⟨78,0,[sI 8 v.1,sA 6 6 5 0,sI 5 0,sA 4 4 5 0],[(6,[cI v.2.1,cI v.2.2.1,cI v.2.2.2,cI x0,cI 0]),(4,[cI 0,cI 0,cI 0,cI 0,cI 0])]⟩) (fun v => spec_BestVec_J1 n x0 v.1 v.2.1 v.2.2.1 v.2.2.2 = some r) ?_ ?_
 ·refine tB ?_
  refine Tr.loop (ι := Nat × (Int × Int × Int × Int × Int × Int × Int × Int × Int × Int)) (fun v => ⟨78,0,[sI 9 v.2.1,sI 8 v.2.2.1,sA 7 7 5 0,sA 6 6 5 0,sI 5 0,sA 4 4 5 0,sI 0 x0,sC 1 (cF 8 x1 Pt.row)],[(7,[cI v.2.2.2.1,cI v.2.2.2.2.1,cI v.2.2.2.2.2.1,cI v.2.2.2.2.2.2.1,cI v.2.2.2.2.2.2.2.1]),(6,[cI v.2.2.2.2.2.2.2.2.1,cI v.2.2.2.2.2.2.2.2.2.1,cI v.2.2.2.2.2.2.2.2.2.2,cI x0,cI 0]),(4,[cI 0,cI 0,cI 0,cI 0,cI 0])]⟩) (fun v => spec_BestVec_L2 n v.1 x0 x1 v.2.1 v.2.2.1 v.2.2.2.1 v.2.2.2.2.1 v.2.2.2.2.2.1 v.2.2.2.2.2.2.1 v.2.2.2.2.2.2.2.1 v.2.2.2.2.2.2.2.2.1 v.2.2.2.2.2.2.2.2.2.1 v.2.2.2.2.2.2.2.2.2.2 = some o15) (fun v => v.1) (n,(0,(-1),0,0,0,0,0,x0,0,0)) eo15 (St.sub_of [9,8,7,6,5,4,0,1] [7,6,4] kr) ?_
  rintro ⟨mo15,y1,y2,y3,y4,y5,y6,y7,y8,y9,y10⟩ H
  have H : spec_BestVec_L2 n mo15 x0 x1 y1 y2 y3 y4 y5 y6 y7 y8 y9 y10 = some o15 := H
  obtain _ | mo15 := mo15
  ·cases (show (none : Option _) = some o15 from H)
  rw [spec_BestVec_L2] at H
  refine tS ?_
  refine rU 2 kr ?_
  refine lL 52 3 182 17 18 none ⟨(.slot 17),[],0,false,8,(CV.frzEs (x1.map Pt.row))⟩ (x1).length _ kr kr kr kr kr (frz_len _ _) rfl ?_
  refine uD 1 984051 208 kr kr ?_
  obtain ⟨h1,H⟩ | ⟨h1,H⟩ := bC H
  ·refine tF h1 kr ?_
   refine Tr.exit ?_
   refine And.intro (fun _ => ?_) (fun h => absurd rfl h)
   obtain rfl := si H
   have H := Ho15
   dsimp only at H
   exact jn (y2,y8,y9,y10) H (sB_ [8,6,5,4] [6,4] kr)
  refine tT h1 kr ?_
  refine tK ?_
  refine tS ?_
  refine tB ?_
  refine tS ?_
  refine rU 2 kr ?_
  obtain ⟨v16,ev16,H⟩ := bind_some H
  refine lI 52 0 22 23 24 none ⟨(.slot 22),[],0,false,8,(CV.frzEs (x1.map Pt.row))⟩ y1 (Pt.row v16) _ kr kr kr kr rfl (idx_isF ev16) rfl ?_
  refine lU 4 kr ?_
  refine lT ⟨78,0,[sB 28 (!v16.Up),sB 27 (!v16.Up),sB 26 v16.Up,(25,.fad ((Pt.row v16))),(24,.fad ((Pt.row v16))),sI 23 y1,sC 22 (cF 8 x1 Pt.row),sB 19 (decide (y1 < (x1.length : Int))),sI 18 (x1.length : Int),sC 17 (cF 8 x1 Pt.row),sI 16 y1,sI 9 y1,sI 8 y2,sA 7 7 5 0,sA 6 6 5 0,sI 5 0,sA 4 4 5 0,sI 0 x0,sC 1 (cF 8 x1 Pt.row)],[(7,[cI y3,cI y4,cI y5,cI y6,cI y7]),(6,[cI y8,cI y9,cI y10,cI x0,cI 0]),(4,[cI 0,cI 0,cI 0,cI 0,cI 0])]⟩ kr ?_
  cases h2 : (!v16.Up)
  ·have H := bifF h2 H
   refine lU 2 kr ?_
   obtain ⟨v17,ev17,H⟩ := bind_some H
   refine lI 52 0 29 30 31 (some (6,false)) ⟨(.slot 29),[],0,false,8,(CV.frzEs (x1.map Pt.row))⟩ y1 (Pt.row v17) _ kr kr kr kr rfl (idx_isF ev17) rfl ?_
   refine uD 4 68716266483 208 kr kr ?_
   obtain ⟨h3,H⟩ | ⟨h3,H⟩ := bC H
   ·refine tF h3 kr ?_
    refine tK ?_
    obtain ⟨v18,ev18,H⟩ := bind_some H
    obtain ⟨v19,ev19,H⟩ := bind_some H
    obtain ⟨r20,er20,H⟩ := bind_some H
    refine Tr.draws mixed 17 kr ⟨78,0,[sB 11 r20.2,sA 10 10 5 0,sB 49 r20.2,(36,.tup [(true,[.dead,.dead,.dead,.dead,.dead]),(false,[.dead])]),sV 48 (Vec.row r20.1),sI 46 v19.Cost,(45,.fad (((Pt.row v19).drop 1))),(44,.fad ((Pt.row v19))),sI 43 y1,sC 42 (cF 8 x1 Pt.row),sV 41 ((Pt.row v18).drop 3),(40,.fad (((Pt.row v18).drop 3))),(39,.fad ((Pt.row v18))),sI 38 y1,sC 37 (cF 8 x1 Pt.row),sB 35 (!v17.Has),sB 34 (!v17.Has),sB 33 v17.Has,(32,.fad (((Pt.row v17).drop 2))),(31,.fad ((Pt.row v17))),sI 30 y1,sC 29 (cF 8 x1 Pt.row),sB 28 false,sB 27 false,sB 26 v16.Up,(25,.fad ((Pt.row v16))),(24,.fad ((Pt.row v16))),sI 23 y1,sC 22 (cF 8 x1 Pt.row),sB 19 (decide (y1 < (x1.length : Int))),sI 18 (x1.length : Int),sC 17 (cF 8 x1 Pt.row),sI 16 y1,sI 9 y1,sI 8 y2,sA 7 7 5 0,sA 6 6 5 0,sI 5 0,sA 4 4 5 0,sI 0 x0,sC 1 (cF 8 x1 Pt.row)],[(10,(Vec.row r20.1)),(7,[cI y3,cI y4,cI y5,cI y6,cI y7]),(6,[cI y8,cI y9,cI y10,cI x0,cI 0]),(4,[cI 0,cI 0,cI 0,cI 0,cI 0])]⟩ (fun cx => ?_) ?_
    ·refine aU [(0,[]),(1,[])] 15 [] [1,0] rfl kr (fun cx => ?_)
     refine aI 2 52 0 37 38 39 none ⟨(.slot 37),[],0,false,8,(CV.frzEs (x1.map Pt.row))⟩ y1 (Pt.row v18) _ kr kr kr kr kr kr rfl (idx_isF ev18) rfl (fun cx => ?_)
     refine aU [(3,[]),(4,[]),(5,[]),(6,[])] 10 [] [6,5,4,3,2,1,0] rfl kr (fun cx => ?_)
     refine aI 7 52 0 42 43 44 none ⟨(.slot 42),[],0,false,8,(CV.frzEs (x1.map Pt.row))⟩ y1 (Pt.row v19) _ kr kr kr kr kr kr rfl (idx_isF ev19) rfl (fun cx => ?_)
     refine aU [(8,[]),(9,[])] 7 [] [9,8,7,6,5,4,3,2,1,0] rfl kr (fun cx => ?_)
     refine AT.big2 tOk 10 14 kr (And.intro kr ?_) (And.intro kr ?_)
     ·refine lV [.rd,.rd] [] (spec_StepVec n v18.Heard v19.Cost r20 er20) kr kr kr kr (.inl rfl) ?_
      refine lF kr kr kr ?_
      refine AT.movT tOk 11 (ty := 259) (t := 47) (d := 36) (g := none) [(true,(Vec.row r20.1)),(false,[cB r20.2])] _ kr kr kr (.inl rfl) kr kr kr kr rfl (fun cx => ?_)
      refine aU [(12,[]),(13,[])] 3 [] [13,12,11,10,9,8,7,6,5,4,3,2,1,0] rfl kr (fun cx => ?_)
      refine b1 14 kr kr ?_
      refine lU 1 kr ?_
      refine lF kr kr kr ?_
      refine b1 15 kr kr ?_
      refine lU 1 kr ?_
      refine lF kr kr kr ?_
      refine aU [(16,[])] 0 [] [16,15,14,13,12,11,10,9,8,7,6,5,4,3,2,1,0] rfl kr (fun cx => ?_)
      exact AT.done [11,10,49,36,48,46,45,44,43,42,41,40,39,38,37,35,34,33,32,31,30,29,28,27,26,25,24,23,22,19,18,17,16,9,8,7,6,5,4,0,1] [10,7,6,4] _ kr kr rfl
     ·refine lU 1 kr ?_
      refine lF kr kr kr ?_
      refine b1 10 kr kr ?_
      refine lV [.rd,.rd] [] (spec_StepVec n v18.Heard v19.Cost r20 er20) kr kr kr kr (.inl rfl) ?_
      refine lF kr kr kr ?_
      refine AT.movT tOk 11 (ty := 259) (t := 47) (d := 36) (g := none) [(true,(Vec.row r20.1)),(false,[cB r20.2])] _ kr kr kr (.inl rfl) kr kr kr kr rfl (fun cx => ?_)
      refine aU [(12,[]),(13,[])] 2 [] [13,12,11,10,14,9,8,7,6,5,4,3,2,1,0] rfl kr (fun cx => ?_)
      refine b1 15 kr kr ?_
      refine lU 1 kr ?_
      refine lF kr kr kr ?_
      refine aU [(16,[])] 0 [] [16,15,13,12,11,10,14,9,8,7,6,5,4,3,2,1,0] rfl kr (fun cx => ?_)
      exact AT.done [11,10,49,36,48,46,45,44,43,42,41,40,39,38,37,35,34,33,32,31,30,29,28,27,26,25,24,23,22,19,18,17,16,9,8,7,6,5,4,0,1] [10,7,6,4] _ kr kr rfl
    refine tS ?_
    refine Tr.mid (ι := Bool × Bool × Bool × Bool × Bool × Bool × Bool) (fun v => ⟨78,0,[sB 65 v.1,sB 57 v.2.1,sB 56 v.2.2.1,sB 51 v.2.2.2.1,sB 50 v.2.2.2.2.1,sB 11 v.2.2.2.2.2.1,sA 10 10 5 0,sB 49 v.2.2.2.2.2.2,(36,.tup [(true,[.dead,.dead,.dead,.dead,.dead]),(false,[.dead])]),sV 48 (Vec.row r20.1),sI 46 v19.Cost,(45,.fad (((Pt.row v19).drop 1))),(44,.fad ((Pt.row v19))),sI 43 y1,sC 42 (cF 8 x1 Pt.row),sV 41 ((Pt.row v18).drop 3),(40,.fad (((Pt.row v18).drop 3))),(39,.fad ((Pt.row v18))),sI 38 y1,sC 37 (cF 8 x1 Pt.row),sB 35 false,sB 34 false,sB 33 v17.Has,(32,.fad (((Pt.row v17).drop 2))),(31,.fad ((Pt.row v17))),sI 30 y1,sC 29 (cF 8 x1 Pt.row),sB 28 false,sB 27 false,sB 26 v16.Up,(25,.fad ((Pt.row v16))),(24,.fad ((Pt.row v16))),sI 23 y1,sC 22 (cF 8 x1 Pt.row),sB 19 true,sI 18 (x1.length : Int),sC 17 (cF 8 x1 Pt.row),sI 16 y1,sI 9 y1,sI 8 y2,sA 7 7 5 0,sA 6 6 5 0,sI 5 0,sA 4 4 5 0,sI 0 x0,sC 1 (cF 8 x1 Pt.row)],[(10,(Vec.row r20.1)),(7,[cI y3,cI y4,cI y5,cI y6,cI y7]),(6,[cI y8,cI y9,cI y10,cI x0,cI 0]),(4,[cI 0,cI 0,cI 0,cI 0,cI 0])]⟩) (fun v => spec_BestVec_J3 n (fun v => spec_BestVec_L2 n mo15 x0 x1 v.1 v.2.1 v.2.2.1 v.2.2.2.1 v.2.2.2.2.1 v.2.2.2.2.2.1 v.2.2.2.2.2.2.1 v.2.2.2.2.2.2.2.1 v.2.2.2.2.2.2.2.2.1 v.2.2.2.2.2.2.2.2.2) r20 y1 y10 y2 y3 y4 y5 y6 y7 y8 y9 v.1 v.2.1 v.2.2.1 v.2.2.2.1 v.2.2.2.2.1 v.2.2.2.2.2.1 v.2.2.2.2.2.2 = some o15) ?_ ?_
    ·refine Tr.at ?_
     refine lU 2 kr ?_
     refine lT ⟨78,0,[sB 51 r20.2,sB 50 r20.2,sB 11 r20.2,sA 10 10 5 0,sB 49 r20.2,(36,.tup [(true,[.dead,.dead,.dead,.dead,.dead]),(false,[.dead])]),sV 48 (Vec.row r20.1),sI 46 v19.Cost,(45,.fad (((Pt.row v19).drop 1))),(44,.fad ((Pt.row v19))),sI 43 y1,sC 42 (cF 8 x1 Pt.row),sV 41 ((Pt.row v18).drop 3),(40,.fad (((Pt.row v18).drop 3))),(39,.fad ((Pt.row v18))),sI 38 y1,sC 37 (cF 8 x1 Pt.row),sB 35 (!v17.Has),sB 34 (!v17.Has),sB 33 v17.Has,(32,.fad (((Pt.row v17).drop 2))),(31,.fad ((Pt.row v17))),sI 30 y1,sC 29 (cF 8 x1 Pt.row),sB 28 false,sB 27 false,sB 26 v16.Up,(25,.fad ((Pt.row v16))),(24,.fad ((Pt.row v16))),sI 23 y1,sC 22 (cF 8 x1 Pt.row),sB 19 (decide (y1 < (x1.length : Int))),sI 18 (x1.length : Int),sC 17 (cF 8 x1 Pt.row),sI 16 y1,sI 9 y1,sI 8 y2,sA 7 7 5 0,sA 6 6 5 0,sI 5 0,sA 4 4 5 0,sI 0 x0,sC 1 (cF 8 x1 Pt.row)],[(10,(Vec.row r20.1)),(7,[cI y3,cI y4,cI y5,cI y6,cI y7]),(6,[cI y8,cI y9,cI y10,cI x0,cI 0]),(4,[cI 0,cI 0,cI 0,cI 0,cI 0])]⟩ kr ?_
     cases h5 : r20.2
     ·have H := bifF h5 H
      refine uD 14 0x3ffff7fffffcf0ff3 1232 kr kr ?_
      refine Sb.to ⟨78,0,[sB 65 false,(64,.tup []),(63,.tup []),(62,.tup []),(61,.tup []),(60,.tup []),(59,.tup []),(58,.tup []),sB 57 false,sB 56 false,(55,.tup []),(54,.tup []),(53,.tup []),(52,.tup []),sB 51 false,sB 50 false,sB 11 false,sA 10 10 5 0,sB 49 false,(36,.tup [(true,[.dead,.dead,.dead,.dead,.dead]),(false,[.dead])]),sV 48 (Vec.row r20.1),sI 46 v19.Cost,(45,.fad (((Pt.row v19).drop 1))),(44,.fad ((Pt.row v19))),sI 43 y1,sC 42 (cF 8 x1 Pt.row),sV 41 ((Pt.row v18).drop 3),(40,.fad (((Pt.row v18).drop 3))),(39,.fad ((Pt.row v18))),sI 38 y1,sC 37 (cF 8 x1 Pt.row),sB 35 (!v17.Has),sB 34 (!v17.Has),sB 33 v17.Has,(32,.fad (((Pt.row v17).drop 2))),(31,.fad ((Pt.row v17))),sI 30 y1,sC 29 (cF 8 x1 Pt.row),sB 28 false,sB 27 false,sB 26 v16.Up,(25,.fad ((Pt.row v16))),(24,.fad ((Pt.row v16))),sI 23 y1,sC 22 (cF 8 x1 Pt.row),sB 19 (decide (y1 < (x1.length : Int))),sI 18 (x1.length : Int),sC 17 (cF 8 x1 Pt.row),sI 16 y1,sI 9 y1,sI 8 y2,sA 7 7 5 0,sA 6 6 5 0,sI 5 0,sA 4 4 5 0,sI 0 x0,sC 1 (cF 8 x1 Pt.row)],[(10,(Vec.row r20.1)),(7,[cI y3,cI y4,cI y5,cI y6,cI y7]),(6,[cI y8,cI y9,cI y10,cI x0,cI 0]),(4,[cI 0,cI 0,cI 0,cI 0,cI 0])]⟩ kr ?_
      rw [h1]
      rw [h3]
      exact jn (false,false,false,false,false,false,false) H (sB_ [65,57,56,51,50,11,10,49,36,48,46,45,44,43,42,41,40,39,38,37,35,34,33,32,31,30,29,28,27,26,25,24,23,22,19,18,17,16,9,8,7,6,5,4,0,1] [10,7,6,4] kr)
     have H := bifT h5 H
     refine lU 6 kr ?_
     refine lT ⟨78,0,[sB 57 (decide (r20.1.Root < x0)),sB 56 (decide (r20.1.Root < x0)),sB 55 (decide (r20.1.Root < x0)),sI 54 x0,sI 53 r20.1.Root,sA 52 10 5 0,sB 51 true,sB 50 true,sB 11 true,sA 10 10 5 0,sB 49 true,(36,.tup [(true,[.dead,.dead,.dead,.dead,.dead]),(false,[.dead])]),sV 48 (Vec.row r20.1),sI 46 v19.Cost,(45,.fad (((Pt.row v19).drop 1))),(44,.fad ((Pt.row v19))),sI 43 y1,sC 42 (cF 8 x1 Pt.row),sV 41 ((Pt.row v18).drop 3),(40,.fad (((Pt.row v18).drop 3))),(39,.fad ((Pt.row v18))),sI 38 y1,sC 37 (cF 8 x1 Pt.row),sB 35 (!v17.Has),sB 34 (!v17.Has),sB 33 v17.Has,(32,.fad (((Pt.row v17).drop 2))),(31,.fad ((Pt.row v17))),sI 30 y1,sC 29 (cF 8 x1 Pt.row),sB 28 false,sB 27 false,sB 26 v16.Up,(25,.fad ((Pt.row v16))),(24,.fad ((Pt.row v16))),sI 23 y1,sC 22 (cF 8 x1 Pt.row),sB 19 (decide (y1 < (x1.length : Int))),sI 18 (x1.length : Int),sC 17 (cF 8 x1 Pt.row),sI 16 y1,sI 9 y1,sI 8 y2,sA 7 7 5 0,sA 6 6 5 0,sI 5 0,sA 4 4 5 0,sI 0 x0,sC 1 (cF 8 x1 Pt.row)],[(10,(Vec.row r20.1)),(7,[cI y3,cI y4,cI y5,cI y6,cI y7]),(6,[cI y8,cI y9,cI y10,cI x0,cI 0]),(4,[cI 0,cI 0,cI 0,cI 0,cI 0])]⟩ kr ?_
     cases h6 : (decide (r20.1.Root < x0))
     ·have H := bifF h6 H
      refine uD 8 0x3ffff7fffffcf0ff3 1232 kr kr ?_
      refine Sb.to ⟨78,0,[sB 65 false,(64,.tup []),(63,.tup []),(62,.tup []),(61,.tup []),(60,.tup []),(59,.tup []),(58,.tup []),sB 57 false,sB 56 false,sB 55 false,sI 54 x0,sI 53 r20.1.Root,sA 52 10 5 0,sB 51 true,sB 50 true,sB 11 true,sA 10 10 5 0,sB 49 true,(36,.tup [(true,[.dead,.dead,.dead,.dead,.dead]),(false,[.dead])]),sV 48 (Vec.row r20.1),sI 46 v19.Cost,(45,.fad (((Pt.row v19).drop 1))),(44,.fad ((Pt.row v19))),sI 43 y1,sC 42 (cF 8 x1 Pt.row),sV 41 ((Pt.row v18).drop 3),(40,.fad (((Pt.row v18).drop 3))),(39,.fad ((Pt.row v18))),sI 38 y1,sC 37 (cF 8 x1 Pt.row),sB 35 (!v17.Has),sB 34 (!v17.Has),sB 33 v17.Has,(32,.fad (((Pt.row v17).drop 2))),(31,.fad ((Pt.row v17))),sI 30 y1,sC 29 (cF 8 x1 Pt.row),sB 28 false,sB 27 false,sB 26 v16.Up,(25,.fad ((Pt.row v16))),(24,.fad ((Pt.row v16))),sI 23 y1,sC 22 (cF 8 x1 Pt.row),sB 19 (decide (y1 < (x1.length : Int))),sI 18 (x1.length : Int),sC 17 (cF 8 x1 Pt.row),sI 16 y1,sI 9 y1,sI 8 y2,sA 7 7 5 0,sA 6 6 5 0,sI 5 0,sA 4 4 5 0,sI 0 x0,sC 1 (cF 8 x1 Pt.row)],[(10,(Vec.row r20.1)),(7,[cI y3,cI y4,cI y5,cI y6,cI y7]),(6,[cI y8,cI y9,cI y10,cI x0,cI 0]),(4,[cI 0,cI 0,cI 0,cI 0,cI 0])]⟩ kr ?_
      rw [h1]
      rw [h3]
      exact jn (false,false,false,true,true,true,true) H (sB_ [65,57,56,51,50,11,10,49,36,48,46,45,44,43,42,41,40,39,38,37,35,34,33,32,31,30,29,28,27,26,25,24,23,22,19,18,17,16,9,8,7,6,5,4,0,1] [10,7,6,4] kr)
     have H := bifT h6 H
     refine lU 3 kr ?_
     refine lT ⟨78,0,[sB 60 (decide (y2 < 0)),sB 59 (decide (y2 < 0)),sI 58 y2,sB 57 true,sB 56 true,sB 55 true,sI 54 x0,sI 53 r20.1.Root,sA 52 10 5 0,sB 51 true,sB 50 true,sB 11 true,sA 10 10 5 0,sB 49 true,(36,.tup [(true,[.dead,.dead,.dead,.dead,.dead]),(false,[.dead])]),sV 48 (Vec.row r20.1),sI 46 v19.Cost,(45,.fad (((Pt.row v19).drop 1))),(44,.fad ((Pt.row v19))),sI 43 y1,sC 42 (cF 8 x1 Pt.row),sV 41 ((Pt.row v18).drop 3),(40,.fad (((Pt.row v18).drop 3))),(39,.fad ((Pt.row v18))),sI 38 y1,sC 37 (cF 8 x1 Pt.row),sB 35 (!v17.Has),sB 34 (!v17.Has),sB 33 v17.Has,(32,.fad (((Pt.row v17).drop 2))),(31,.fad ((Pt.row v17))),sI 30 y1,sC 29 (cF 8 x1 Pt.row),sB 28 false,sB 27 false,sB 26 v16.Up,(25,.fad ((Pt.row v16))),(24,.fad ((Pt.row v16))),sI 23 y1,sC 22 (cF 8 x1 Pt.row),sB 19 (decide (y1 < (x1.length : Int))),sI 18 (x1.length : Int),sC 17 (cF 8 x1 Pt.row),sI 16 y1,sI 9 y1,sI 8 y2,sA 7 7 5 0,sA 6 6 5 0,sI 5 0,sA 4 4 5 0,sI 0 x0,sC 1 (cF 8 x1 Pt.row)],[(10,(Vec.row r20.1)),(7,[cI y3,cI y4,cI y5,cI y6,cI y7]),(6,[cI y8,cI y9,cI y10,cI x0,cI 0]),(4,[cI 0,cI 0,cI 0,cI 0,cI 0])]⟩ kr ?_
     cases h7 : (decide (y2 < 0))
     ·have H := bifF h7 H
      refine lU 2 kr ?_
      obtain ⟨r28,er28,H⟩ := bind_some H
      refine lV [.rd,.rd] [] (spec_LessVec n r20.1 (⟨y3,y4,y5,y6,y7⟩ : Vec) r28 er28) kr kr kr kr (.inl rfl) ?_
      refine uD 2 0x3ffff7fffffcf0ff3 1232 kr kr ?_
      refine Sb.to ⟨78,0,[sB 65 r28,sB 64 r28,sB 63 r28,sV 62 [cI y3,cI y4,cI y5,cI y6,cI y7],sV 61 (Vec.row r20.1),sB 60 false,sB 59 false,sI 58 y2,sB 57 true,sB 56 true,sB 55 true,sI 54 x0,sI 53 r20.1.Root,sA 52 10 5 0,sB 51 true,sB 50 true,sB 11 true,sA 10 10 5 0,sB 49 true,(36,.tup [(true,[.dead,.dead,.dead,.dead,.dead]),(false,[.dead])]),sV 48 (Vec.row r20.1),sI 46 v19.Cost,(45,.fad (((Pt.row v19).drop 1))),(44,.fad ((Pt.row v19))),sI 43 y1,sC 42 (cF 8 x1 Pt.row),sV 41 ((Pt.row v18).drop 3),(40,.fad (((Pt.row v18).drop 3))),(39,.fad ((Pt.row v18))),sI 38 y1,sC 37 (cF 8 x1 Pt.row),sB 35 (!v17.Has),sB 34 (!v17.Has),sB 33 v17.Has,(32,.fad (((Pt.row v17).drop 2))),(31,.fad ((Pt.row v17))),sI 30 y1,sC 29 (cF 8 x1 Pt.row),sB 28 false,sB 27 false,sB 26 v16.Up,(25,.fad ((Pt.row v16))),(24,.fad ((Pt.row v16))),sI 23 y1,sC 22 (cF 8 x1 Pt.row),sB 19 (decide (y1 < (x1.length : Int))),sI 18 (x1.length : Int),sC 17 (cF 8 x1 Pt.row),sI 16 y1,sI 9 y1,sI 8 y2,sA 7 7 5 0,sA 6 6 5 0,sI 5 0,sA 4 4 5 0,sI 0 x0,sC 1 (cF 8 x1 Pt.row)],[(10,(Vec.row r20.1)),(7,[cI y3,cI y4,cI y5,cI y6,cI y7]),(6,[cI y8,cI y9,cI y10,cI x0,cI 0]),(4,[cI 0,cI 0,cI 0,cI 0,cI 0])]⟩ kr ?_
      rw [h1]
      rw [h3]
      exact jn (r28,true,true,true,true,true,true) H (sB_ [65,57,56,51,50,11,10,49,36,48,46,45,44,43,42,41,40,39,38,37,35,34,33,32,31,30,29,28,27,26,25,24,23,22,19,18,17,16,9,8,7,6,5,4,0,1] [10,7,6,4] kr)
     have H := bifT h7 H
     refine uD 5 0x3ffff7fffffcf0ff3 1232 kr kr ?_
     refine Sb.to ⟨78,0,[sB 65 true,sB 64 true,(63,.tup []),(62,.tup []),(61,.tup []),sB 60 true,sB 59 true,sI 58 y2,sB 57 true,sB 56 true,sB 55 true,sI 54 x0,sI 53 r20.1.Root,sA 52 10 5 0,sB 51 true,sB 50 true,sB 11 true,sA 10 10 5 0,sB 49 true,(36,.tup [(true,[.dead,.dead,.dead,.dead,.dead]),(false,[.dead])]),sV 48 (Vec.row r20.1),sI 46 v19.Cost,(45,.fad (((Pt.row v19).drop 1))),(44,.fad ((Pt.row v19))),sI 43 y1,sC 42 (cF 8 x1 Pt.row),sV 41 ((Pt.row v18).drop 3),(40,.fad (((Pt.row v18).drop 3))),(39,.fad ((Pt.row v18))),sI 38 y1,sC 37 (cF 8 x1 Pt.row),sB 35 (!v17.Has),sB 34 (!v17.Has),sB 33 v17.Has,(32,.fad (((Pt.row v17).drop 2))),(31,.fad ((Pt.row v17))),sI 30 y1,sC 29 (cF 8 x1 Pt.row),sB 28 false,sB 27 false,sB 26 v16.Up,(25,.fad ((Pt.row v16))),(24,.fad ((Pt.row v16))),sI 23 y1,sC 22 (cF 8 x1 Pt.row),sB 19 (decide (y1 < (x1.length : Int))),sI 18 (x1.length : Int),sC 17 (cF 8 x1 Pt.row),sI 16 y1,sI 9 y1,sI 8 y2,sA 7 7 5 0,sA 6 6 5 0,sI 5 0,sA 4 4 5 0,sI 0 x0,sC 1 (cF 8 x1 Pt.row)],[(10,(Vec.row r20.1)),(7,[cI y3,cI y4,cI y5,cI y6,cI y7]),(6,[cI y8,cI y9,cI y10,cI x0,cI 0]),(4,[cI 0,cI 0,cI 0,cI 0,cI 0])]⟩ kr ?_
     rw [h1]
     rw [h3]
     exact jn (true,true,true,true,true,true,true) H (sB_ [65,57,56,51,50,11,10,49,36,48,46,45,44,43,42,41,40,39,38,37,35,34,33,32,31,30,29,28,27,26,25,24,23,22,19,18,17,16,9,8,7,6,5,4,0,1] [10,7,6,4] kr)
    rintro ⟨y21,y22,y23,y24,y25,y26,y27⟩ H
    have H : (spec_BestVec_J3 n (fun v => spec_BestVec_L2 n mo15 x0 x1 v.1 v.2.1 v.2.2.1 v.2.2.2.1 v.2.2.2.2.1 v.2.2.2.2.2.1 v.2.2.2.2.2.2.1 v.2.2.2.2.2.2.2.1 v.2.2.2.2.2.2.2.2.1 v.2.2.2.2.2.2.2.2.2) r20 y1 y10 y2 y3 y4 y5 y6 y7 y8 y9 y21 y22 y23 y24 y25 y26 y27) = some o15 := H
    unfold spec_BestVec_J3 at H
    cases h4 : y21
    ·have H := bifF h4 H
     refine tf kr ?_
     refine tK ?_
     refine tE 3 0x2030f7fffffff0ff3 1232 kr kr ?_
     exact jn (mo15,((w6 (y1 + 1)),y2,y3,y4,y5,y6,y7,y8,y9,y10)) H (sM mo15 [9,8,7,6,5,4,0,1] [7,6,4] kr)
    have H := bifT h4 H
    refine tt kr ?_
    refine tG 2 0x6030f7fffffcf0ff3 1232 kr kr ?_
    refine tG 2 0xe030f7fffffcf0ff3 1232 kr kr ?_
    refine tE 9 0xffe030f7fffffcf0ff3 1232 kr kr ?_
    refine tE 3 0xffe030f7fffffff0ff3 1232 kr kr ?_
    exact jn (mo15,((w6 (y1 + 1)),y1,r20.1.Root,r20.1.Cost,r20.1.Hops,r20.1.Bridge,r20.1.Port,r20.1.Root,r20.1.Cost,r20.1.Hops)) H (sM mo15 [9,8,7,6,5,4,0,1] [7,6,4] kr)
   refine tT h3 kr ?_
   refine Tr.exit ?_
   refine And.intro (fun _ => ?_) (fun h => absurd rfl h)
   refine tE 3 68719412211 208 kr kr ?_
   exact jn (mo15,((w6 (y1 + 1)),y2,y3,y4,y5,y6,y7,y8,y9,y10)) H (sM mo15 [9,8,7,6,5,4,0,1] [7,6,4] kr)
  have H := bifT h2 H
  refine uD 7 68716266483 208 kr kr ?_
  refine tt kr ?_
  refine Tr.exit ?_
  refine And.intro (fun _ => ?_) (fun h => absurd rfl h)
  refine tE 3 68719412211 208 kr kr ?_
  exact jn (mo15,((w6 (y1 + 1)),y2,y3,y4,y5,y6,y7,y8,y9,y10)) H (sM mo15 [9,8,7,6,5,4,0,1] [7,6,4] kr)
 rintro ⟨y11,y12,y13,y14⟩ H
 have H : (spec_BestVec_J1 n x0 y11 y12 y13 y14) = some r := H
 unfold spec_BestVec_J1 at H
 refine tG 4 48 16 kr kr ?_
 exact te (by obtain rfl := si H; exact fO [(true,[cI y12,cI y13,cI y14,cI x0,cI 0]),(false,[cI y11])] kr rfl rfl)
def spec_SayVecF (n : Nat) (x0 : Int) (x1 : (List Pt)) (x2 : Int) : Option (Vec) :=
  ((spec_BestVecF n x0 x1).bind fun r1 => (some (⟨r1.1.Root,r1.1.Cost,r1.1.Hops,r1.1.Bridge,x2⟩ : Vec)))
theorem spec_SayVec (n : Nat) (x0 : Int) (x1 : (List Pt)) (x2 : Int) (r : Vec) (H : spec_SayVecF n x0 x1 x2 = some r) : LCall Tryz.prog 214 [.val false [.lit (.int .i64 x0)],.val false [.sl false 8 (CV.frzEs (x1.map Pt.row))],.val false [.lit (.int .i64 x2)]] [.val true (Vec.row r)] [] := by
 refine LCall.of_body tOk Tryz.func214 rfl (c := (.seq (Rg Tryz.f214 0) (.seq (Rg Tryz.f214 1) (.seq (Rg Tryz.f214 2) (.seq (Rg Tryz.f214 3) .ret))))) kr (Nat.le_of_ble_eq_true kr) 0 (rs := [.cell 6 162]) rfl [] .nil [(true,(Vec.row r))] [] [] fun cx => ?_
 show Tr _ _ _ ⟨18,0,[sI 0 x0,sC 1 (cF 8 x1 Pt.row),sI 2 x2],[]⟩ _
 unfold spec_SayVecF at H
 refine tG 1 71 64 kr kr ?_
 refine rU 2 kr ?_
 obtain ⟨r1,er1,H⟩ := bind_some H
 refine lV [.rd,.rd] [] (spec_BestVec n x0 x1 r1 er1) kr kr kr kr (.inl rfl) ?_
 refine LAt.movT tOk (ty := 240) (t := 12) (d := 9) (g := none) [(true,(Vec.row r1.1)),(false,[cI r1.2])] _ kr (.inl rfl) kr kr kr kr rfl ?_
 refine uD 5 196 192 kr kr ?_
 refine tG 3 192 192 kr kr ?_
 refine tG 2 64 64 kr kr ?_
 exact te (by obtain rfl := si H; exact fO [(true,[cI r1.1.Root,cI r1.1.Cost,cI r1.1.Hops,cI r1.1.Bridge,cI x2])] kr rfl rfl)
def spec_l14SayF (n : Nat) (x0 : Net) (x1 : Int) (x2 : Bool) : Option (Vec) :=
  ((idx x0.Links x1).bind fun v1 => (bif x2 then ((idx x0.Bridges v1.B).bind fun v5 => ((idx x0.Bridges v1.B).bind fun v6 => ((spec_SayVecF n v5.Id v6.Ports v1.Q).bind fun r7 => (some r7)))) else ((idx x0.Bridges v1.A).bind fun v2 => ((idx x0.Bridges v1.A).bind fun v3 => ((spec_SayVecF n v2.Id v3.Ports v1.P).bind fun r4 => (some r4))))))
theorem spec_l14Say (n : Nat) (x0 : Net) (x1 : Int) (x2 : Bool) (r : Vec) (H : spec_l14SayF n x0 x1 x2 = some r) : LCall Tryz.prog 134 [.val true (CV.frzRow (Net.row x0)),.val false [.lit (.int .i64 x1)],.val false [.lit (.bool x2)]] [.val true (Vec.row r)] [] := by
 refine LCall.of_body tOk Tryz.func134 rfl (c := (.seq (Rg Tryz.f134 0) (.seq (Rg Tryz.f134 1) (.seq (.seq (Rg Tryz.f134 2) (.cond (.tmp 13) (.seq (Rd Tryz.f134 3) .ret) .skip)) (.seq (Rd Tryz.f134 4) .ret))))) kr (Nat.le_of_ble_eq_true kr) 0 (rs := [.cell 6 162]) rfl [] .nil [(true,(Vec.row r))] [] [] fun cx => ?_
 show Tr _ _ _ ⟨48,0,[sV 0 (CV.frzRow (Net.row x0)),sI 1 x1,sB 2 x2],[]⟩ _
 unfold spec_l14SayF at H
 refine tG 2 78 72 kr kr ?_
 refine rU 3 kr ?_
 obtain ⟨v1,ev1,H⟩ := bind_some H
 refine lI 26 0 9 10 11 none ⟨(.slot 9),[],0,false,4,(CV.frzEs (x0.Links.map Link.row))⟩ x1 (Link.row v1) _ kr kr kr kr rfl (idx_isF ev1) rfl ?_
 refine uD 3 204 200 kr kr ?_
 refine tS ?_
 refine tG 1 8392 200 kr kr ?_
 cases h1 : x2
 ·have H := bifF h1 H
  refine tf kr ?_
  refine tK ?_
  obtain ⟨v2,ev2,H⟩ := bind_some H
  obtain ⟨v3,ev3,H⟩ := bind_some H
  obtain ⟨r4,er4,H⟩ := bind_some H
  refine Tr.draws mixed 18 kr ⟨48,0,[sA 6 6 5 0],[(6,(Vec.row r4))]⟩ (fun cx => ?_) ?_
  ·refine aU [(0,[]),(1,[16,17]),(2,[]),(3,[16,17])] 14 [⟨[16,17],3,33,34⟩,⟨[16,17],25,31,32⟩] [3,2,1,0] rfl kr (fun cx => ?_)
   refine aI 4 25 0 32 34 35 none ⟨(.box 3),[(0,0)],0,false,11,(CV.frzEs (x0.Bridges.map Bridge.row))⟩ v1.A (CV.frzRow (Bridge.row v2)) _ kr kr kr kr kr kr rfl (idx_isF ev2) rfl (fun cx => ?_)
   refine aU [(5,[]),(6,[]),(7,[]),(8,[16,17]),(9,[]),(10,[16,17])] 7 [⟨[16,17],3,40,41⟩,⟨[16,17],25,38,39⟩,⟨[16,17],3,33,34⟩,⟨[16,17],25,31,32⟩] [10,9,8,7,6,5,4,3,2,1,0] rfl kr (fun cx => ?_)
   refine aI 11 25 0 39 41 42 none ⟨(.box 3),[(0,0)],0,false,11,(CV.frzEs (x0.Bridges.map Bridge.row))⟩ v1.A (CV.frzRow (Bridge.row v3)) _ kr kr kr kr kr kr rfl (idx_isF ev3) rfl (fun cx => ?_)
   refine aU [(12,[]),(13,[]),(14,[]),(15,[16,17])] 2 [⟨[16,17],3,45,46⟩,⟨[16,17],3,40,41⟩,⟨[16,17],25,38,39⟩,⟨[16,17],3,33,34⟩,⟨[16,17],25,31,32⟩] [15,14,13,12,11,10,9,8,7,6,5,4,3,2,1,0] rfl kr (fun cx => ?_)
   refine b1 16 kr kr ?_
   refine lV [.rd,.rd,.rd] [] (spec_SayVec n v2.Id v3.Ports v1.P r4 er4) kr kr kr kr (.inl rfl) ?_
   refine lF kr kr kr ?_
   refine b1 17 kr kr ?_
   refine lU 1 kr ?_
   refine lF kr kr kr ?_
   exact AT.done [6] [6] _ kr kr rfl
  exact te (by obtain rfl := si H; exact fO [(true,(Vec.row r4))] kr rfl rfl)
 have H := bifT h1 H
 refine tt kr ?_
 obtain ⟨v5,ev5,H⟩ := bind_some H
 obtain ⟨v6,ev6,H⟩ := bind_some H
 obtain ⟨r7,er7,H⟩ := bind_some H
 refine Tr.draws mixed 18 kr ⟨48,0,[sA 6 6 5 0],[(6,(Vec.row r7))]⟩ (fun cx => ?_) ?_
 ·refine aU [(0,[]),(1,[16,17]),(2,[]),(3,[16,17])] 14 [⟨[16,17],3,16,17⟩,⟨[16,17],25,14,15⟩] [3,2,1,0] rfl kr (fun cx => ?_)
  refine aI 4 25 0 15 17 18 none ⟨(.box 3),[(0,0)],0,false,11,(CV.frzEs (x0.Bridges.map Bridge.row))⟩ v1.B (CV.frzRow (Bridge.row v5)) _ kr kr kr kr kr kr rfl (idx_isF ev5) rfl (fun cx => ?_)
  refine aU [(5,[]),(6,[]),(7,[]),(8,[16,17]),(9,[]),(10,[16,17])] 7 [⟨[16,17],3,23,24⟩,⟨[16,17],25,21,22⟩,⟨[16,17],3,16,17⟩,⟨[16,17],25,14,15⟩] [10,9,8,7,6,5,4,3,2,1,0] rfl kr (fun cx => ?_)
  refine aI 11 25 0 22 24 25 none ⟨(.box 3),[(0,0)],0,false,11,(CV.frzEs (x0.Bridges.map Bridge.row))⟩ v1.B (CV.frzRow (Bridge.row v6)) _ kr kr kr kr kr kr rfl (idx_isF ev6) rfl (fun cx => ?_)
  refine aU [(12,[]),(13,[]),(14,[]),(15,[16,17])] 2 [⟨[16,17],3,28,29⟩,⟨[16,17],3,23,24⟩,⟨[16,17],25,21,22⟩,⟨[16,17],3,16,17⟩,⟨[16,17],25,14,15⟩] [15,14,13,12,11,10,9,8,7,6,5,4,3,2,1,0] rfl kr (fun cx => ?_)
  refine b1 16 kr kr ?_
  refine lV [.rd,.rd,.rd] [] (spec_SayVec n v5.Id v6.Ports v1.Q r7 er7) kr kr kr kr (.inl rfl) ?_
  refine lF kr kr kr ?_
  refine b1 17 kr kr ?_
  refine lU 1 kr ?_
  refine lF kr kr kr ?_
  exact AT.done [6] [6] _ kr kr rfl
 exact te (by obtain rfl := si H; exact fO [(true,(Vec.row r7))] kr rfl rfl)
def spec_l11ThereF (n : Nat) (x0 : Bridge) (x1 : Int) : Option (Bool) :=
  ((spec_BridgeOkF n x0).bind fun r1 => (bif r1 then ((spec_l1InF n x1 0 (IntKind.wrap .i64 ((x0.Ports.length : Int) - 1))).bind fun r2 => (some r2)) else (some false)))
theorem spec_l11There (n : Nat) (x0 : Bridge) (x1 : Int) (r : Bool) (H : spec_l11ThereF n x0 x1 = some r) : LCall Tryz.prog 96 [.val true (CV.frzRow (Bridge.row x0)),.val false [.lit (.int .i64 x1)]] [.val false [.lit (.bool r)]] [] := by
 refine LCall.of_body tOk Tryz.func96 rfl (c := (.seq (Rg Tryz.f96 0) (.seq (Rg Tryz.f96 1) .ret))) kr (Nat.le_of_ble_eq_true kr) 0 (rs := [.tmp 4]) rfl [] .nil [(false,[.lit (.bool r)])] [] [] fun cx => ?_
 show Tr _ _ _ ⟨15,0,[sV 0 (CV.frzRow (Bridge.row x0)),sI 1 x1],[]⟩ _
 unfold spec_l11ThereF at H
 refine tG 2 6 4 kr kr ?_
 refine rU 1 kr ?_
 obtain ⟨r1,er1,H⟩ := bind_some H
 refine lV [.rd] [] (spec_BridgeOk n x0 r1 er1) kr kr kr kr (.inl rfl) ?_
 refine lU 1 kr ?_
 refine lT ⟨15,0,[sB 7 r1,sB 6 r1,sV 5 (CV.frzRow (Bridge.row x0)),sA 2 2 11 0,sI 1 x1],[(2,(CV.frzRow (Bridge.row x0)))]⟩ kr ?_
 cases h1 : r1
 ·have H := bifF h1 H
  refine uD 8 16 0 kr kr ?_
  exact te (by obtain rfl := si H; exact fO [(false,[cB false])] kr rfl rfl)
 have H := bifT h1 H
 refine lU 3 kr ?_
 refine lL 52 3 182 10 11 (some (2,true)) ⟨(.slot 10),[],0,false,8,(CV.frzEs (x0.Ports.map Pt.row))⟩ (x0.Ports).length _ kr kr kr kr kr (frz_len _ _) rfl ?_
 refine lU 1 kr ?_
 obtain ⟨r2,er2,H⟩ := bind_some H
 refine lV [.rd,.rd,.rd] [] (spec_l1In n x1 0 (w6 ((x0.Ports.length : Int) - 1)) r2 er2) kr kr kr kr (.inl rfl) ?_
 refine uD 2 16 0 kr kr ?_
 exact te (by obtain rfl := si H; exact fO [(false,[cB r2])] kr rfl rfl)
def spec_l11OneF (n : Nat) (x0 : Int) : Option (Int) :=
  (bif (decide (x0 ≥ 1000000)) then (some x0) else (some (IntKind.wrap .i64 (x0 + 1))))
theorem spec_l11One (n : Nat) (x0 : Int) (r : Int) (H : spec_l11OneF n x0 = some r) : LCall Tryz.prog 101 [.val false [.lit (.int .i64 x0)]] [.val false [.lit (.int .i64 r)]] [] := by
 refine LCall.of_body tOk Tryz.func101 rfl (c := (.seq (Rg Tryz.f101 0) (.seq (.seq (Rg Tryz.f101 1) (.cond (.tmp 4) (.seq (Rg Tryz.f101 2) .ret) .skip)) (.seq (Rg Tryz.f101 3) .ret)))) kr (Nat.le_of_ble_eq_true kr) 0 (rs := [.tmp 2]) rfl [] .nil [(false,[.lit (.int .i64 r)])] [] [] fun cx => ?_
 show Tr _ _ _ ⟨8,0,[sI 0 x0],[]⟩ _
 unfold spec_l11OneF at H
 refine tG 1 1 0 kr kr ?_
 refine tS ?_
 refine tG 2 17 0 kr kr ?_
 obtain ⟨h1,H⟩ | ⟨h1,H⟩ := bC H
 ·refine tF h1 kr ?_
  refine tK ?_
  refine tG 3 4 0 kr kr ?_
  exact te (by obtain rfl := si H; exact fO [(false,[cI (w6 (x0 + 1))])] kr rfl rfl)
 refine tT h1 kr ?_
 refine tG 2 4 0 kr kr ?_
 exact te (by obtain rfl := si H; exact fO [(false,[cI x0])] kr rfl rfl)
def spec_RoleOfF (n : Nat) (x0 : Int) (x1 : (List Pt)) (x2 : Int) : Option (Int) :=
  ((spec_l1InF n x2 0 (IntKind.wrap .i64 ((x1.length : Int) - 1))).bind fun r1 => (bif (!r1) then (some 4) else ((idx x1 x2).bind fun v2 => (bif (!v2.Up) then (some 4) else ((spec_BestVecF n x0 x1).bind fun r3 => (bif (r3.2 == x2) then (some 1) else ((idx x1 x2).bind fun v4 => (bif (!v4.Has) then (some 2) else ((spec_SayVecF n x0 x1 x2).bind fun r5 => ((idx x1 x2).bind fun v6 => ((spec_LessVecF n r5 v6.Heard).bind fun r7 => (bif r7 then (some 2) else (some 3)))))))))))))
noncomputable abbrev G194 (k : Nat) := Rg Tryz.f194 k
theorem spec_RoleOf (n : Nat) (x0 : Int) (x1 : (List Pt)) (x2 : Int) (r : Int) (H : spec_RoleOfF n x0 x1 x2 = some r) : LCall Tryz.prog 194 [.val false [.lit (.int .i64 x0)],.val false [.sl false 8 (CV.frzEs (x1.map Pt.row))],.val false [.lit (.int .i64 x2)]] [.val false [.lit (.int .i64 r)]] [] := by
 refine LCall.of_body tOk Tryz.func194 rfl (c := (.seq (G194 0) (.seq (.seq (G194 1) (.cond (.tmp 22) (.seq (G194 2) .ret) .skip)) (.seq (G194 3) (.seq (.block 0 (.seq (G194 4) (.cond (.tmp 29) (.seq (G194 5) .ret) (.seq (Rd Tryz.f194 6) (.cond (.tmp 33) (.seq (G194 7) .ret) .skip))))) (.seq (G194 8) .ret)))))) kr (Nat.le_of_ble_eq_true kr) 0 (rs := [.tmp 6]) rfl [] .nil [(false,[.lit (.int .i64 r)])] [] [] fun cx => ?_
 show Tr _ _ _ ⟨52,0,[sI 0 x0,sC 1 (cF 8 x1 Pt.row),sI 2 x2],[]⟩ _
 unfold spec_RoleOfF at H
 refine tG 1 7 0 kr kr ?_
 refine tS ?_
 refine rU 2 kr ?_
 refine lL 52 3 182 10 11 none ⟨(.slot 10),[],0,false,8,(CV.frzEs (x1.map Pt.row))⟩ (x1).length _ kr kr kr kr kr (frz_len _ _) rfl ?_
 refine lU 1 kr ?_
 obtain ⟨r1,er1,H⟩ := bind_some H
 refine lV [.rd,.rd,.rd] [] (spec_l1In n x2 0 (w6 ((x1.length : Int) - 1)) r1 er1) kr kr kr kr (.inl rfl) ?_
 refine lU 2 kr ?_
 refine lT ⟨52,0,[sB 15 (!r1),sB 14 (!r1),sB 13 r1,sI 12 (w6 ((x1.length : Int) - 1)),sI 11 (x1.length : Int),sC 10 (cF 8 x1 Pt.row),sI 9 x2,sI 0 x0,sC 1 (cF 8 x1 Pt.row),sI 2 x2],[]⟩ kr ?_
 cases h1 : (!r1)
 ·have H := bifF h1 H
  refine lU 2 kr ?_
  obtain ⟨v2,ev2,H⟩ := bind_some H
  refine lI 52 0 16 17 18 (some (6,false)) ⟨(.slot 16),[],0,false,8,(CV.frzEs (x1.map Pt.row))⟩ x2 (Pt.row v2) _ kr kr kr kr rfl (idx_isF ev2) rfl ?_
  refine uD 4 4194311 0 kr kr ?_
  obtain ⟨h2,H⟩ | ⟨h2,H⟩ := bC H
  ·refine tF h2 kr ?_
   refine tK ?_
   refine rU 2 kr ?_
   obtain ⟨r3,er3,H⟩ := bind_some H
   refine lV [.rd,.rd] [] (spec_BestVec n x0 x1 r3 er3) kr kr kr kr (.inl rfl) ?_
   refine LAt.movT tOk (ty := 240) (t := 26) (d := 23) (g := none) [(true,(Vec.row r3.1)),(false,[cI r3.2])] _ kr (.inl rfl) kr kr kr kr rfl ?_
   refine uD 5 263 0 kr kr ?_
   refine tS ?_
   refine tB ?_
   refine tG 4 536870919 0 kr kr ?_
   obtain ⟨h3,H⟩ | ⟨h3,H⟩ := bC H
   ·refine tF h3 kr ?_
    obtain ⟨v4,ev4,H⟩ := bind_some H
    refine tO ⟨52,0,[sB 29 (r3.2 == x2),sI 0 x0,sC 1 (cF 8 x1 Pt.row),sI 2 x2],[]⟩ kr ?_
    cases h4 : (!v4.Has)
    ·have H := bifF h4 H
     obtain ⟨r5,er5,H⟩ := bind_some H
     obtain ⟨v6,ev6,H⟩ := bind_some H
     obtain ⟨r7,er7,H⟩ := bind_some H
     refine Tr.draws mixed 19 kr ⟨52,0,[sB 33 r7],[]⟩ (fun cx => ?_) ?_
     ·refine aU [(0,[]),(1,[])] 17 [] [1,0] rfl kr (fun cx => ?_)
      refine aI 2 52 0 34 35 36 none ⟨(.slot 34),[],0,false,8,(CV.frzEs (x1.map Pt.row))⟩ x2 (Pt.row v4) _ kr kr kr kr kr kr rfl (idx_isF ev4) rfl (fun cx => ?_)
      refine aU [(3,[]),(4,[]),(5,[]),(6,[])] 12 [] [6,5,4,3,2,1,0] rfl kr (fun cx => ?_)
      refine aT ⟨52,0,[sB 40 (!v4.Has),sB 39 (!v4.Has),sB 38 v4.Has,(37,.fad (((Pt.row v4).drop 2))),(36,.fad ((Pt.row v4))),sI 35 x2,sC 34 (cF 8 x1 Pt.row),sB 29 (r3.2 == x2),sI 0 x0,sC 1 (cF 8 x1 Pt.row),sI 2 x2],[]⟩ kr ?_
      rw [h4]
      refine aU [(7,[]),(8,[]),(9,[]),(11,[]),(12,[])] 7 [] [12,11,9,8,7,6,5,4,3,2,1,0] rfl kr (fun cx => ?_)
      refine aI 13 52 0 45 46 47 (some (6,false)) ⟨(.slot 45),[],0,false,8,(CV.frzEs (x1.map Pt.row))⟩ x2 (Pt.row v6) _ kr kr kr kr kr kr rfl (idx_isF ev6) rfl (fun cx => ?_)
      refine aU [(14,[]),(15,[])] 4 [] [15,14,13,12,11,9,8,7,6,5,4,3,2,1,0] rfl kr (fun cx => ?_)
      refine b1 10 kr kr ?_
      refine lV [.rd,.rd,.rd] [] (spec_SayVec n x0 x1 x2 r5 er5) kr kr kr kr (.inl rfl) ?_
      refine lF kr kr kr ?_
      refine b1 16 kr kr ?_
      refine lV [.rd,.rd] [] (spec_LessVec n r5 v6.Heard r7 er7) kr kr kr kr (.inl rfl) ?_
      refine lF kr kr kr ?_
      refine aU [(17,[]),(18,[])] 0 [] [18,17,16,10,15,14,13,12,11,9,8,7,6,5,4,3,2,1,0] rfl kr (fun cx => ?_)
      exact AT.done [33] [] _ kr kr rfl
     cases h5 : r7
     ·have H := bifF h5 H
      refine tf kr ?_
      refine tK ?_
      refine tG 1 64 0 kr kr ?_
      exact te (by obtain rfl := si H; exact fO [(false,[cI 3])] kr rfl rfl)
     have H := bifT h5 H
     refine tt kr ?_
     refine tG 1 64 0 kr kr ?_
     exact te (by obtain rfl := si H; exact fO [(false,[cI 2])] kr rfl rfl)
    have H := bifT h4 H
    refine Tr.draws mixed 19 kr ⟨52,0,[sB 33 true],[]⟩ (fun cx => ?_) ?_
    ·refine aU [(0,[]),(1,[])] 17 [] [1,0] rfl kr (fun cx => ?_)
     refine aI 2 52 0 34 35 36 none ⟨(.slot 34),[],0,false,8,(CV.frzEs (x1.map Pt.row))⟩ x2 (Pt.row v4) _ kr kr kr kr kr kr rfl (idx_isF ev4) rfl (fun cx => ?_)
     refine aU [(3,[]),(4,[]),(5,[]),(6,[])] 12 [] [6,5,4,3,2,1,0] rfl kr (fun cx => ?_)
     refine aT ⟨52,0,[sB 40 (!v4.Has),sB 39 (!v4.Has),sB 38 v4.Has,(37,.fad (((Pt.row v4).drop 2))),(36,.fad ((Pt.row v4))),sI 35 x2,sC 34 (cF 8 x1 Pt.row),sB 29 (r3.2 == x2),sI 0 x0,sC 1 (cF 8 x1 Pt.row),sI 2 x2],[]⟩ kr ?_
     rw [h4]
     refine aU [(7,[]),(8,[]),(9,[]),(10,[]),(11,[]),(12,[]),(13,[]),(14,[]),(15,[]),(16,[]),(17,[]),(18,[])] 0 [] [18,17,16,15,14,13,12,11,10,9,8,7,6,5,4,3,2,1,0] rfl kr (fun cx => ?_)
     exact AT.done [33] [] _ kr kr rfl
    refine tt kr ?_
    refine tG 1 64 0 kr kr ?_
    exact te (by obtain rfl := si H; exact fO [(false,[cI 2])] kr rfl rfl)
   refine tT h3 kr ?_
   refine tG 1 64 0 kr kr ?_
   exact te (by obtain rfl := si H; exact fO [(false,[cI 1])] kr rfl rfl)
  refine tT h2 kr ?_
  refine tG 1 64 0 kr kr ?_
  exact te (by obtain rfl := si H; exact fO [(false,[cI 4])] kr rfl rfl)
 have H := bifT h1 H
 refine uD 7 4194311 0 kr kr ?_
 refine tt kr ?_
 refine tG 1 64 0 kr kr ?_
 exact te (by obtain rfl := si H; exact fO [(false,[cI 4])] kr rfl rfl)
def spec_Sends_J1 (n : Nat) (y3 : Int) : Option (Int) :=
  (some y3)
def spec_Sends_L2 (n : Nat) : Nat → Int → (List Pt) → Int → Int → Option ((Int) ⊕ (Int))
  | 0,_,_,_,_ => none
  | mo4 + 1,x0,x1,y1,y2 => (bif (decide (y1 < (x1.length : Int))) then (bif (decide (y1 < 6)) then ((spec_RoleOfF n x0 x1 y1).bind fun r5 => (bif (decide (r5 ≤ 2)) then (bif (decide ((0 : Int) ≤ (IntKind.wrap .u64 y1))) then (spec_Sends_L2 n mo4 x0 x1 (IntKind.wrap .i64 (y1 + 1)) (IntKind.wrap .i64 (BitVec.ofInt (IntKind.bits .i64) y2 ||| BitVec.ofInt (IntKind.bits .i64) (IntKind.wrap .i64 (1 * 2 ^ min (((IntKind.wrap .u64 y1) : Int)).toNat (IntKind.bits .i64)))).toNat)) else none) else (spec_Sends_L2 n mo4 x0 x1 (IntKind.wrap .i64 (y1 + 1)) y2))) else (some (Sum.inl y2))) else (some (Sum.inl y2)))
def spec_SendsF (n : Nat) (x0 : Int) (x1 : (List Pt)) : Option (Int) :=
  ((spec_Sends_L2 n n x0 x1 0 0).bind fun o => match o with | .inl y3 => (spec_Sends_J1 n y3) | .inr r => some r)
noncomputable abbrev G98 (k : Nat) := Rg Tryz.f98 k
theorem spec_Sends (n : Nat) (x0 : Int) (x1 : (List Pt)) (r : Int) (H : spec_SendsF n x0 x1 = some r) : LCall Tryz.prog 98 [.val false [.lit (.int .i64 x0)],.val false [.sl false 8 (CV.frzEs (x1.map Pt.row))]] [.val false [.lit (.int .i64 r)]] [] := by
 refine LCall.of_body tOk Tryz.func98 rfl (c := (.seq (G98 0) (.seq (G98 1) (.seq (.seq (G98 2) (.block 0 (.loop (.seq (.seq (G98 3) (.cond (.tmp 14) .skip (.exit 0))) (.seq (.block 1 (.seq (G98 5) (.cond (.tmp 21) (G98 6) .skip))) (G98 4)))))) (.seq (G98 7) .ret))))) kr (Nat.le_of_ble_eq_true kr) 0 (rs := [.tmp 4]) rfl [] .nil [(false,[.lit (.int .i64 r)])] [] [] fun cx => ?_
 show Tr _ _ _ ⟨28,0,[sI 0 x0,sC 1 (cF 8 x1 Pt.row)],[]⟩ _
 unfold spec_SendsF at H
 refine tG 1 3 0 kr kr ?_
 refine tG 1 35 0 kr kr ?_
 refine tS ?_
 refine tG 1 99 0 kr kr ?_
 obtain ⟨o4,eo4,Ho4⟩ := bind_some H
 clear H
 refine Tr.mid (ι := Int) (fun v => ⟨28,0,[sI 5 v],[]⟩) (fun v => spec_Sends_J1 n v = some r) ?_ ?_
 ·refine tB ?_
  refine Tr.loop (ι := Nat × (Int × Int)) (fun v => ⟨28,0,[sI 6 v.2.1,sI 5 v.2.2,sI 0 x0,sC 1 (cF 8 x1 Pt.row)],[]⟩) (fun v => spec_Sends_L2 n v.1 x0 x1 v.2.1 v.2.2 = some o4) (fun v => v.1) (n,(0,0)) eo4 (St.sub_of [6,5,0,1] [] kr) ?_
  rintro ⟨mo4,y1,y2⟩ H
  have H : spec_Sends_L2 n mo4 x0 x1 y1 y2 = some o4 := H
  obtain _ | mo4 := mo4
  ·cases (show (none : Option _) = some o4 from H)
  rw [spec_Sends_L2] at H
  refine tS ?_
  refine rU 2 kr ?_
  refine lL 52 3 182 8 9 none ⟨(.slot 8),[],0,false,8,(CV.frzEs (x1.map Pt.row))⟩ (x1).length _ kr kr kr kr kr (frz_len _ _) rfl ?_
  refine lU 2 kr ?_
  refine lT ⟨28,0,[sB 11 (decide (y1 < (x1.length : Int))),sB 10 (decide (y1 < (x1.length : Int))),sI 9 (x1.length : Int),sC 8 (cF 8 x1 Pt.row),sI 7 y1,sI 6 y1,sI 5 y2,sI 0 x0,sC 1 (cF 8 x1 Pt.row)],[]⟩ kr ?_
  cases h1 : (decide (y1 < (x1.length : Int)))
  ·have H := bifF h1 H
   refine uD 3 16483 0 kr kr ?_
   refine tf kr ?_
   refine Tr.exit ?_
   refine And.intro (fun _ => ?_) (fun h => absurd rfl h)
   obtain rfl := si H
   have H := Ho4
   dsimp only at H
   exact jn y2 H (sB_ [5] [] kr)
  have H := bifT h1 H
  refine uD 3 16483 0 kr kr ?_
  obtain ⟨h2,H⟩ | ⟨h2,H⟩ := bC H
  ·refine tF h2 kr ?_
   refine Tr.exit ?_
   refine And.intro (fun _ => ?_) (fun h => absurd rfl h)
   obtain rfl := si H
   have H := Ho4
   dsimp only at H
   exact jn y2 H (sB_ [5] [] kr)
  refine tT h2 kr ?_
  refine tK ?_
  refine tS ?_
  refine tB ?_
  refine rU 3 kr ?_
  obtain ⟨r5,er5,H⟩ := bind_some H
  refine lV [.rd,.rd,.rd] [] (spec_RoleOf n x0 x1 y1 r5 er5) kr kr kr kr (.inl rfl) ?_
  refine uD 1 2097251 0 kr kr ?_
  obtain ⟨h3,H⟩ | ⟨h3,H⟩ := bC H
  ·refine tF h3 kr ?_
   refine tK ?_
   refine tE 3 99 0 kr kr ?_
   exact jn (mo4,((w6 (y1 + 1)),y2)) H (sM mo4 [6,5,0,1] [] kr)
  refine tT h3 kr ?_
  refine Tr.at ?_
  refine lU 3 kr ?_
  obtain ⟨hg6,H⟩ := guard_some H
  refine LAt.binC tOk (op := .shl) (t := 3) (ty := 145) (ty' := 3) (x := (.const (.int .i64 1))) (y := (.tmp 24)) (d := 25) (g := none) (.int .i64 1) (.int .u64 (IntKind.wrap .u64 y1)) (.int .i64 (w6 (1 * 2 ^ min (((IntKind.wrap .u64 y1) : Int)).toNat (IntKind.bits .i64)))) _ kr kr kr kr kr (φ := (0 : Int) ≤ (IntKind.wrap .u64 y1)) kr (of_decide_eq_true hg6) rfl ?_
  refine uD 2 99 0 kr kr ?_
  refine tE 3 99 0 kr kr ?_
  exact jn (mo4,((w6 (y1 + 1)),(w6 (BitVec.ofInt (IntKind.bits .i64) y2 ||| BitVec.ofInt (IntKind.bits .i64) (w6 (1 * 2 ^ min (((IntKind.wrap .u64 y1) : Int)).toNat (IntKind.bits .i64)))).toNat))) H (sM mo4 [6,5,0,1] [] kr)
 rintro y3 H
 have H : (spec_Sends_J1 n y3) = some r := H
 unfold spec_Sends_J1 at H
 refine tG 2 16 0 kr kr ?_
 exact te (by obtain rfl := si H; exact fO [(false,[cI y3])] kr rfl rfl)
def spec_l9BitF (n : Nat) (x0 : Int) (x1 : Int) : Option (Bool) :=
  ((spec_l1InF n x1 0 7).bind fun r1 => (bif r1 then (bif (decide ((0 : Int) ≤ (IntKind.wrap .u64 x1))) then (some ((IntKind.wrap .i64 (BitVec.ofInt (IntKind.bits .i64) (Int.fdiv x0 (2 ^ min (((IntKind.wrap .u64 x1) : Int)).toNat (IntKind.bits .i64))) &&& BitVec.ofInt (IntKind.bits .i64) 1).toNat) == 1)) else none) else (some false)))
theorem spec_l9Bit (n : Nat) (x0 : Int) (x1 : Int) (r : Bool) (H : spec_l9BitF n x0 x1 = some r) : LCall Tryz.prog 100 [.val false [.lit (.int .i64 x0)],.val false [.lit (.int .i64 x1)]] [.val false [.lit (.bool r)]] [] := by
 refine LCall.of_body tOk Tryz.func100 rfl (c := (.seq (Rg Tryz.f100 0) (.seq (Rg Tryz.f100 1) .ret))) kr (Nat.le_of_ble_eq_true kr) 0 (rs := [.tmp 4]) rfl [] .nil [(false,[.lit (.bool r)])] [] [] fun cx => ?_
 show Tr _ _ _ ⟨15,0,[sI 0 x0,sI 1 x1],[]⟩ _
 unfold spec_l9BitF at H
 refine tG 1 3 0 kr kr ?_
 refine rU 1 kr ?_
 obtain ⟨r1,er1,H⟩ := bind_some H
 refine lV [.rd,.rd,.rd] [] (spec_l1In n x1 0 7 r1 er1) kr kr kr kr (.inl rfl) ?_
 refine lU 1 kr ?_
 refine lT ⟨15,0,[sB 7 r1,sB 6 r1,sI 5 x1,sI 0 x0,sI 1 x1],[]⟩ kr ?_
 cases h1 : r1
 ·have H := bifF h1 H
  refine uD 8 16 0 kr kr ?_
  exact te (by obtain rfl := si H; exact fO [(false,[cB false])] kr rfl rfl)
 have H := bifT h1 H
 refine lU 3 kr ?_
 obtain ⟨hg2,H⟩ := guard_some H
 refine LAt.binC tOk (op := .shr) (t := 3) (ty := 145) (ty' := 3) (x := (.tmp 8)) (y := (.tmp 10)) (d := 11) (g := (some (2,true))) (.int .i64 x0) (.int .u64 (IntKind.wrap .u64 x1)) (.int .i64 (Int.fdiv x0 (2 ^ min (((IntKind.wrap .u64 x1) : Int)).toNat (IntKind.bits .i64)))) _ kr kr kr kr kr (φ := (0 : Int) ≤ (IntKind.wrap .u64 x1)) kr (of_decide_eq_true hg2) rfl ?_
 refine uD 4 16 0 kr kr ?_
 exact te (by obtain rfl := si H; exact fO [(false,[cB ((w6 (BitVec.ofInt (IntKind.bits .i64) (Int.fdiv x0 (2 ^ min (((IntKind.wrap .u64 x1) : Int)).toNat (IntKind.bits .i64))) &&& BitVec.ofInt (IntKind.bits .i64) 1).toNat) == 1)])] kr rfl rfl)
def spec_FlushPort_J1 (n : Nat) (y3 : (List Fent)) : Option ((List Fent)) :=
  (some y3)
def spec_FlushPort_L2 (n : Nat) : Nat → (List Fent) → Int → Int → (List Fent) → Option (((List Fent)) ⊕ ((List Fent)))
  | 0,_,_,_,_ => none
  | mo4 + 1,x0,x1,y1,y2 => (bif (decide (y1 < (x0.length : Int))) then ((idx x0 y1).bind fun v5 => (bif v5.Static then ((idx x0 y1).bind fun v9 => (bif (decide (y2.length + [v9].length ≤ 268435456)) then (spec_FlushPort_L2 n mo4 x0 x1 (IntKind.wrap .i64 (y1 + 1)) (y2 ++ [v9])) else none)) else ((idx x0 y1).bind fun v6 => (bif (v6.Port != x1) then ((idx x0 y1).bind fun v7 => (bif (decide (y2.length + [v7].length ≤ 268435456)) then (spec_FlushPort_L2 n mo4 x0 x1 (IntKind.wrap .i64 (y1 + 1)) (y2 ++ [v7])) else none)) else (spec_FlushPort_L2 n mo4 x0 x1 (IntKind.wrap .i64 (y1 + 1)) y2))))) else (some (Sum.inl y2)))
def spec_FlushPortF (n : Nat) (x0 : (List Fent)) (x1 : Int) : Option ((List Fent)) :=
  ((spec_FlushPort_L2 n n x0 x1 0 ([] : List Fent)).bind fun o => match o with | .inl y3 => (spec_FlushPort_J1 n y3) | .inr r => some r)
noncomputable abbrev G236 (k : Nat) := Rg Tryz.f236 k
theorem spec_FlushPort (n : Nat) (x0 : (List Fent)) (x1 : Int) (r : (List Fent)) (H : spec_FlushPortF n x0 x1 = some r) : LCall Tryz.prog 236 [.val false [.sl false 5 (CV.frzEs (x0.map Fent.row))],.val false [.lit (.int .i64 x1)]] [.val false [.sl true 5 (r.map Fent.row)]] [] := by
 refine LCall.of_body tOk Tryz.func236 rfl (c := (.seq (G236 0) (.seq (G236 1) (.seq (.seq (G236 2) (.block 0 (.loop (.seq (.seq (G236 3) (.cond (.tmp 11) .skip (.exit 0))) (.seq (.block 1 (.seq (G236 5) (.cond (.tmp 27) (G236 6) .skip))) (G236 4)))))) (.seq (G236 7) .ret))))) kr (Nat.le_of_ble_eq_true kr) 0 (rs := [.tmp 4]) rfl [] .nil [(false,[.sl true 5 (r.map Fent.row)])] [] [] fun cx => ?_
 show Tr _ _ _ ⟨36,0,[sC 0 (cF 5 x0 Fent.row),sI 1 x1],[]⟩ _
 unfold spec_FlushPortF at H
 refine tG 1 3 0 kr kr ?_
 refine rU 1 kr ?_
 refine LAt.moveU (T := lk tab) (ty := 53) (x := (.tmp 7)) (d := 5) (g := none) false [cL 5 ([] : List Fent) Fent.row] kr kr kr kr kr ?_
 refine lD 35 0 kr ?_
 refine tS ?_
 refine tG 1 99 0 kr kr ?_
 obtain ⟨o4,eo4,Ho4⟩ := bind_some H
 clear H
 refine Tr.mid (ι := (List Fent)) (fun v => ⟨36,0,[sC 5 (cL 5 v Fent.row)],[]⟩) (fun v => spec_FlushPort_J1 n v = some r) ?_ ?_
 ·refine tB ?_
  refine Tr.loop (ι := Nat × (Int × (List Fent))) (fun v => ⟨36,0,[sI 6 v.2.1,sC 5 (cL 5 v.2.2 Fent.row),sC 0 (cF 5 x0 Fent.row),sI 1 x1],[]⟩) (fun v => spec_FlushPort_L2 n v.1 x0 x1 v.2.1 v.2.2 = some o4) (fun v => v.1) (n,(0,([] : List Fent))) eo4 (St.sub_of [6,5,0,1] [] kr) ?_
  rintro ⟨mo4,y1,y2⟩ H
  have H : spec_FlushPort_L2 n mo4 x0 x1 y1 y2 = some o4 := H
  obtain _ | mo4 := mo4
  ·cases (show (none : Option _) = some o4 from H)
  rw [spec_FlushPort_L2] at H
  refine tS ?_
  refine rU 2 kr ?_
  refine lL 53 3 184 9 10 none ⟨(.slot 9),[],0,false,5,(CV.frzEs (x0.map Fent.row))⟩ (x0).length _ kr kr kr kr kr (frz_len _ _) rfl ?_
  refine uD 1 2147 0 kr kr ?_
  obtain ⟨h1,H⟩ | ⟨h1,H⟩ := bC H
  ·refine tF h1 kr ?_
   refine Tr.exit ?_
   refine And.intro (fun _ => ?_) (fun h => absurd rfl h)
   obtain rfl := si H
   have H := Ho4
   dsimp only at H
   exact jn y2 H (sB_ [5] [] kr)
  refine tT h1 kr ?_
  refine tK ?_
  refine tS ?_
  refine tB ?_
  refine tS ?_
  refine Tr.at ?_
  refine lU 2 kr ?_
  obtain ⟨v5,ev5,H⟩ := bind_some H
  refine lI 53 0 14 15 16 none ⟨(.slot 14),[],0,false,5,(CV.frzEs (x0.map Fent.row))⟩ y1 (Fent.row v5) _ kr kr kr kr rfl (idx_isF ev5) rfl ?_
  refine lU 3 kr ?_
  refine lT ⟨36,0,[sB 19 v5.Static,sB 18 v5.Static,(17,.fad ([cB v5.Static])),(16,.fad ((Fent.row v5))),sI 15 y1,sC 14 (cF 5 x0 Fent.row),sB 11 (decide (y1 < (x0.length : Int))),sI 6 y1,sC 5 (cL 5 y2 Fent.row),sC 0 (cF 5 x0 Fent.row),sI 1 x1],[]⟩ kr ?_
  cases h2 : v5.Static
  ·have H := bifF h2 H
   refine lU 2 kr ?_
   obtain ⟨v6,ev6,H⟩ := bind_some H
   refine lI 53 0 20 21 22 (some (5,false)) ⟨(.slot 20),[],0,false,5,(CV.frzEs (x0.map Fent.row))⟩ y1 (Fent.row v6) _ kr kr kr kr rfl (idx_isF ev6) rfl ?_
   refine uD 5 134217827 0 kr kr ?_
   obtain ⟨h3,H⟩ | ⟨h3,H⟩ := bC H
   ·refine tF h3 kr ?_
    refine tK ?_
    refine tE 3 99 0 kr kr ?_
    exact jn (mo4,((w6 (y1 + 1)),y2)) H (sM mo4 [6,5,0,1] [] kr)
   refine tT h3 kr ?_
   refine Tr.at ?_
   refine lU 3 kr ?_
   obtain ⟨v7,ev7,H⟩ := bind_some H
   refine lI 53 0 29 30 31 none ⟨(.slot 29),[],0,false,5,(CV.frzEs (x0.map Fent.row))⟩ y1 (Fent.row v7) _ kr kr kr kr rfl (idx_isF ev7) rfl ?_
   refine lU 2 kr ?_
   obtain ⟨hg8,H⟩ := guard_some H
   refine LAt.appMU tOk (t := 53) (ty := 53) (e := 184) (x := (.tmp 28)) (y := (.tmp 33)) (d := 34) (g := none) (tI 184) Fent.row y2 [v7] kr kr kr kr kr kr kr kr kr kr hg8 ?_
   refine LAt.moveU (T := lk tab) (ty := 53) (x := (.tmp 34)) (d := 5) (g := none) false [cL 5 (y2 ++ [v7]) Fent.row] kr kr kr kr kr ?_
   refine lD 99 0 kr ?_
   refine tE 3 99 0 kr kr ?_
   exact jn (mo4,((w6 (y1 + 1)),(y2 ++ [v7]))) H (sM mo4 [6,5,0,1] [] kr)
  have H := bifT h2 H
  refine uD 8 134217827 0 kr kr ?_
  refine tt kr ?_
  refine Tr.at ?_
  refine lU 3 kr ?_
  obtain ⟨v9,ev9,H⟩ := bind_some H
  refine lI 53 0 29 30 31 none ⟨(.slot 29),[],0,false,5,(CV.frzEs (x0.map Fent.row))⟩ y1 (Fent.row v9) _ kr kr kr kr rfl (idx_isF ev9) rfl ?_
  refine lU 2 kr ?_
  obtain ⟨hg10,H⟩ := guard_some H
  refine LAt.appMU tOk (t := 53) (ty := 53) (e := 184) (x := (.tmp 28)) (y := (.tmp 33)) (d := 34) (g := none) (tI 184) Fent.row y2 [v9] kr kr kr kr kr kr kr kr kr kr hg10 ?_
  refine LAt.moveU (T := lk tab) (ty := 53) (x := (.tmp 34)) (d := 5) (g := none) false [cL 5 (y2 ++ [v9]) Fent.row] kr kr kr kr kr ?_
  refine lD 99 0 kr ?_
  refine tE 3 99 0 kr kr ?_
  exact jn (mo4,((w6 (y1 + 1)),(y2 ++ [v9]))) H (sM mo4 [6,5,0,1] [] kr)
 rintro y3 H
 have H : (spec_FlushPort_J1 n y3) = some r := H
 unfold spec_FlushPort_J1 at H
 refine tG 2 48 0 kr kr ?_
 exact te (by obtain rfl := si H; exact fO [(false,[cL 5 y3 Fent.row])] kr rfl rfl)
def spec_l11Turned_J1 (n : Nat) (r1 : Int) (x0 : Bridge) (y5 : (List Fent)) : Option (Bridge) :=
  (some (⟨x0.Id,x0.Name,x0.Ports,y5,x0.V,x0.Ticks,x0.Parse,x0.Word,x0.Drops,r1⟩ : Bridge))
def spec_l11Turned_L2 (n : Nat) : Nat → Int → Bridge → Int → (List Fent) → Option (((List Fent)) ⊕ (Bridge))
  | 0,_,_,_,_ => none
  | mo6 + 1,r2,x0,y3,y4 => (bif (decide (y3 < (x0.Ports.length : Int))) then ((spec_l9BitF n r2 y3).bind fun r7 => (bif (!r7) then ((spec_FlushPortF n y4 y3).bind fun r8 => (spec_l11Turned_L2 n mo6 r2 x0 (IntKind.wrap .i64 (y3 + 1)) r8)) else (spec_l11Turned_L2 n mo6 r2 x0 (IntKind.wrap .i64 (y3 + 1)) y4))) else (some (Sum.inl y4)))
def spec_l11TurnedF (n : Nat) (x0 : Bridge) : Option (Bridge) :=
  ((spec_l11OneF n x0.Vers).bind fun r1 => ((spec_SendsF n x0.Id x0.Ports).bind fun r2 => ((spec_l11Turned_L2 n n r2 x0 0 x0.F).bind fun o => match o with | .inl y5 => (spec_l11Turned_J1 n r1 x0 y5) | .inr r => some r)))
noncomputable abbrev G181 (k : Nat) := Rg Tryz.f181 k
theorem spec_l11Turned (n : Nat) (x0 : Bridge) (r : Bridge) (H : spec_l11TurnedF n x0 = some r) : LCall Tryz.prog 181 [.own true (Bridge.row x0)] [.val true (Bridge.row r)] [] := by
 refine LCall.of_body tOk Tryz.func181 rfl (c := (.seq (G181 0) (.seq (G181 1) (.seq (G181 2) (.seq (.seq (G181 3) (.block 0 (.loop (.seq (.seq (G181 4) (.cond (.tmp 18) .skip (.exit 0))) (.seq (.block 1 (.seq (G181 6) (.cond (.tmp 24) (G181 7) .skip))) (G181 5)))))) (.seq (G181 8) .ret)))))) kr (Nat.le_of_ble_eq_true kr) 0 (rs := [.cell 2 58]) rfl [] .nil [(true,(Bridge.row r))] [] [] fun cx => ?_
 show Tr _ _ _ ⟨31,0,[sV 0 (Bridge.row x0)],[]⟩ _
 unfold spec_l11TurnedF at H
 refine tG 2 6 6 kr kr ?_
 refine rU 2 kr ?_
 obtain ⟨r1,er1,H⟩ := bind_some H
 refine lV [.rd] [] (spec_l11One n x0.Vers r1 er1) kr kr kr kr (.inl rfl) ?_
 refine uD 2 6 6 kr kr ?_
 refine rU 4 kr ?_
 obtain ⟨r2,er2,H⟩ := bind_some H
 refine lV [.rd,.rd] [.box 1] (spec_Sends n x0.Id x0.Ports r2 er2) kr kr kr kr (.inr (rets_cons (mine_cons mine_lit mine_nil) rets_nil)) ?_
 refine uD 1 14 6 kr kr ?_
 refine tS ?_
 refine tG 1 30 6 kr kr ?_
 obtain ⟨o6,eo6,Ho6⟩ := bind_some H
 clear H
 refine Tr.mid (ι := (List Fent)) (fun v => ⟨31,0,[sA 2 2 11 0,sA 1 1 11 0],[(1,[cI x0.Id,cS x0.Name,cL 8 x0.Ports Pt.row,cL 5 v Fent.row,cL 3 x0.V.Rows Vrow.row,cL 1 x0.V.Pvid intRow,cI x0.Ticks,cI x0.Parse,cI x0.Word,cI x0.Drops,cI r1]),(2,[cI 0,cS (⟨#[]⟩ : ByteArray),cL 8 ([] : List Pt) Pt.row,cL 5 ([] : List Fent) Fent.row,cL 3 ([] : List Vrow) Vrow.row,cL 1 ([] : List Int) intRow,cI 0,cI 0,cI 0,cI 0,cI 0])]⟩) (fun v => spec_l11Turned_J1 n r1 x0 v = some r) ?_ ?_
 ·refine tB ?_
  refine Tr.loop (ι := Nat × (Int × (List Fent))) (fun v => ⟨31,0,[sI 4 v.2.1,sI 3 r2,sA 2 2 11 0,sA 1 1 11 0],[(1,[cI x0.Id,cS x0.Name,cL 8 x0.Ports Pt.row,cL 5 v.2.2 Fent.row,cL 3 x0.V.Rows Vrow.row,cL 1 x0.V.Pvid intRow,cI x0.Ticks,cI x0.Parse,cI x0.Word,cI x0.Drops,cI r1]),(2,[cI 0,cS (⟨#[]⟩ : ByteArray),cL 8 ([] : List Pt) Pt.row,cL 5 ([] : List Fent) Fent.row,cL 3 ([] : List Vrow) Vrow.row,cL 1 ([] : List Int) intRow,cI 0,cI 0,cI 0,cI 0,cI 0])]⟩) (fun v => spec_l11Turned_L2 n v.1 r2 x0 v.2.1 v.2.2 = some o6) (fun v => v.1) (n,(0,x0.F)) eo6 (St.sub_of [4,3,2,1] [1,2] kr) ?_
  rintro ⟨mo6,y3,y4⟩ H
  have H : spec_l11Turned_L2 n mo6 r2 x0 y3 y4 = some o6 := H
  obtain _ | mo6 := mo6
  ·cases (show (none : Option _) = some o6 from H)
  rw [spec_l11Turned_L2] at H
  refine tS ?_
  refine rU 3 kr ?_
  refine lL 52 3 182 16 17 none ⟨(.box 1),[(0,0)],2,true,8,(x0.Ports.map Pt.row)⟩ (x0.Ports).length _ kr kr kr kr kr (map_len _ _) rfl ?_
  refine uD 1 262174 6 kr kr ?_
  obtain ⟨h1,H⟩ | ⟨h1,H⟩ := bC H
  ·refine tF h1 kr ?_
   refine Tr.exit ?_
   refine And.intro (fun _ => ?_) (fun h => absurd rfl h)
   obtain rfl := si H
   have H := Ho6
   dsimp only at H
   exact jn y4 H (sB_ [2,1] [1,2] kr)
  refine tT h1 kr ?_
  refine tK ?_
  refine tS ?_
  refine tB ?_
  refine rU 2 kr ?_
  obtain ⟨r7,er7,H⟩ := bind_some H
  refine lV [.rd,.rd] [] (spec_l9Bit n r2 y3 r7 er7) kr kr kr kr (.inl rfl) ?_
  refine uD 1 16777246 6 kr kr ?_
  obtain ⟨h2,H⟩ | ⟨h2,H⟩ := bC H
  ·refine tF h2 kr ?_
   refine tK ?_
   refine tE 3 30 6 kr kr ?_
   exact jn (mo6,((w6 (y3 + 1)),y4)) H (sM mo6 [4,3,2,1] [1,2] kr)
  refine tT h2 kr ?_
  refine Tr.at ?_
  refine lU 3 kr ?_
  obtain ⟨r8,er8,H⟩ := bind_some H
  refine lV [.rd,.rd] [.box 1] (spec_FlushPort n y4 y3 r8 er8) kr kr kr kr (.inr (rets_cons (mine_cons (mine_sl (mine_map Fent.row_mine _)) mine_nil) rets_nil)) ?_
  refine uD 2 30 6 kr kr ?_
  refine tE 3 30 6 kr kr ?_
  exact jn (mo6,((w6 (y3 + 1)),r8)) H (sM mo6 [4,3,2,1] [1,2] kr)
 rintro y5 H
 have H : (spec_l11Turned_J1 n r1 x0 y5) = some r := H
 unfold spec_l11Turned_J1 at H
 refine tG 2 4 4 kr kr ?_
 exact te (by obtain rfl := si H; exact fO [(true,[cI x0.Id,cS x0.Name,cL 8 x0.Ports Pt.row,cL 5 y5 Fent.row,cL 3 x0.V.Rows Vrow.row,cL 1 x0.V.Pvid intRow,cI x0.Ticks,cI x0.Parse,cI x0.Word,cI x0.Drops,cI r1])] kr rfl rfl)
def spec_HearVecF (n : Nat) (x0 : Bridge) (x1 : Int) (x2 : Vec) : Option (Bridge) :=
  ((spec_l11CopyF n x0).bind fun r1 => ((spec_l11ThereF n x0 x1).bind fun r2 => (bif (!r2) then (some r1) else ((idx x0.Ports x1).bind fun v3 => (bif (!v3.Up) then (some r1) else ((spec_VecOkF n x2).bind fun r4 => (bif (!r4) then (some r1) else ((idx r1.Ports x1).bind fun v5 => ((idx (r1.Ports.set (x1.toNat) (⟨v5.Up,v5.Cost,true,v5.Heard⟩ : Pt)) x1).bind fun v6 => ((spec_l11TurnedF n (⟨r1.Id,r1.Name,((r1.Ports.set (x1.toNat) (⟨v5.Up,v5.Cost,true,v5.Heard⟩ : Pt)).set (x1.toNat) (⟨v6.Up,v6.Cost,v6.Has,x2⟩ : Pt)),r1.F,r1.V,r1.Ticks,r1.Parse,r1.Word,r1.Drops,r1.Vers⟩ : Bridge)).bind fun r7 => (some r7)))))))))))
noncomputable abbrev G213 (k : Nat) := Rg Tryz.f213 k
theorem spec_HearVec (n : Nat) (x0 : Bridge) (x1 : Int) (x2 : Vec) (r : Bridge) (H : spec_HearVecF n x0 x1 x2 = some r) : LCall Tryz.prog 213 [.val true (CV.frzRow (Bridge.row x0)),.val false [.lit (.int .i64 x1)],.val true (CV.frzRow (Vec.row x2))] [.val true (Bridge.row r)] [] := by
 refine LCall.of_body tOk Tryz.func213 rfl (c := (.seq (G213 0) (.seq (G213 1) (.seq (.seq (G213 2) (.cond (.tmp 27) (.seq (G213 3) .ret) .skip)) (.seq (G213 4) (.seq (G213 5) (.seq (G213 6) .ret))))))) kr (Nat.le_of_ble_eq_true kr) 0 (rs := [.cell 6 58]) rfl [] .nil [(true,(Bridge.row r))] [] [] fun cx => ?_
 show Tr _ _ _ ⟨42,0,[sV 0 (CV.frzRow (Bridge.row x0)),sI 1 x1,sV 2 (Vec.row x2)],[]⟩ _
 unfold spec_HearVecF at H
 refine tG 3 106 104 kr kr ?_
 refine rU 1 kr ?_
 obtain ⟨r1,er1,H⟩ := bind_some H
 refine lV [.rd] [] (spec_l11Copy n x0 r1 er1) kr kr kr kr (.inl rfl) ?_
 refine uD 2 234 232 kr kr ?_
 refine tS ?_
 refine rU 2 kr ?_
 obtain ⟨r2,er2,H⟩ := bind_some H
 refine lV [.rd,.rd] [] (spec_l11There n x0 x1 r2 er2) kr kr kr kr (.inl rfl) ?_
 refine lU 2 kr ?_
 refine lT ⟨42,0,[sB 14 (!r2),sB 13 (!r2),sB 12 r2,sI 11 x1,sV 10 (CV.frzRow (Bridge.row x0)),sA 7 7 11 0,sA 6 6 11 0,sA 5 5 5 0,sA 3 3 11 0,sI 1 x1],[(7,(Bridge.row r1)),(6,[cI 0,cS (⟨#[]⟩ : ByteArray),cL 8 ([] : List Pt) Pt.row,cL 5 ([] : List Fent) Fent.row,cL 3 ([] : List Vrow) Vrow.row,cL 1 ([] : List Int) intRow,cI 0,cI 0,cI 0,cI 0,cI 0]),(5,(Vec.row x2)),(3,(CV.frzRow (Bridge.row x0)))]⟩ kr ?_
 cases h1 : (!r2)
 ·have H := bifF h1 H
  refine lU 3 kr ?_
  obtain ⟨v3,ev3,H⟩ := bind_some H
  refine lI 52 0 16 17 18 (some (4,false)) ⟨(.slot 16),[],0,false,8,(CV.frzEs (x0.Ports.map Pt.row))⟩ x1 (Pt.row v3) _ kr kr kr kr rfl (idx_isF ev3) rfl ?_
  refine lU 5 kr ?_
  refine lT ⟨42,0,[sB 23 (!v3.Up),sB 22 (!v3.Up),sB 21 (!v3.Up),sB 20 v3.Up,(19,.fad ((Pt.row v3))),(18,.fad ((Pt.row v3))),sI 17 x1,sC 16 (cF 8 x0.Ports Pt.row),sA 15 3 11 2,sB 14 false,sB 13 false,sB 12 r2,sI 11 x1,sV 10 (CV.frzRow (Bridge.row x0)),sA 7 7 11 0,sA 6 6 11 0,sA 5 5 5 0,sA 3 3 11 0,sI 1 x1],[(7,(Bridge.row r1)),(6,[cI 0,cS (⟨#[]⟩ : ByteArray),cL 8 ([] : List Pt) Pt.row,cL 5 ([] : List Fent) Fent.row,cL 3 ([] : List Vrow) Vrow.row,cL 1 ([] : List Int) intRow,cI 0,cI 0,cI 0,cI 0,cI 0]),(5,(Vec.row x2)),(3,(CV.frzRow (Bridge.row x0)))]⟩ kr ?_
  cases h2 : (!v3.Up)
  ·have H := bifF h2 H
   refine lU 1 kr ?_
   obtain ⟨r4,er4,H⟩ := bind_some H
   refine lV [.rd] [] (spec_VecOk n x2 r4 er4) kr kr kr kr (.inl rfl) ?_
   refine uD 2 134217954 224 kr kr ?_
   obtain ⟨h3,H⟩ | ⟨h3,H⟩ := bC H
   ·refine tF h3 kr ?_
    refine tK ?_
    refine rU 3 kr ?_
    obtain ⟨v5,ev5,H⟩ := bind_some H
    refine lO 52 0 30 31 32 none ⟨(.box 7),[(0,0)],2,true,8,(r1.Ports.map Pt.row)⟩ x1 (x1.toNat) (Pt.row v5) _ kr kr kr kr rfl kr (idx_isE ev5) rfl rfl ?_
    refine lU 1 kr ?_
    refine LAt.storeB tOk (t := 4) (ty := 0) (ad := (.tmp 33)) (x := (.const (.bool true))) (g := none) (tI 4) false [cB true] 7 2 (x1.toNat) 8 2 8 r1.Ports Pt.row v5 (⟨v5.Up,v5.Cost,true,v5.Heard⟩ : Pt) kr kr kr kr kr kr kr kr (idx_get ev5).2 kr kr kr kr ?_
    refine lD 226 224 kr ?_
    refine rU 4 kr ?_
    obtain ⟨v6,ev6,H⟩ := bind_some H
    refine lO 52 0 35 36 38 none ⟨(.box 7),[(0,0)],2,true,8,((r1.Ports.set (x1.toNat) (⟨v5.Up,v5.Cost,true,v5.Heard⟩ : Pt)).map Pt.row)⟩ x1 (x1.toNat) (Pt.row v6) _ kr kr kr kr rfl kr (idx_isE ev6) rfl rfl ?_
    refine lU 1 kr ?_
    refine LAt.storeB tOk (t := 162) (ty := 0) (ad := (.tmp 39)) (x := (.tmp 37)) (g := none) (tI 162) true (Vec.row x2) 7 2 (x1.toNat) 8 3 8 (r1.Ports.set (x1.toNat) (⟨v5.Up,v5.Cost,true,v5.Heard⟩ : Pt)) Pt.row v6 (⟨v6.Up,v6.Cost,v6.Has,x2⟩ : Pt) kr kr kr kr kr kr kr kr (idx_get ev6).2 kr kr kr kr ?_
    refine lD 192 192 kr ?_
    refine rU 1 kr ?_
    obtain ⟨r7,er7,H⟩ := bind_some H
    refine lV [.own] [] (spec_l11Turned n (⟨r1.Id,r1.Name,((r1.Ports.set (x1.toNat) (⟨v5.Up,v5.Cost,true,v5.Heard⟩ : Pt)).set (x1.toNat) (⟨v6.Up,v6.Cost,v6.Has,x2⟩ : Pt)),r1.F,r1.V,r1.Ticks,r1.Parse,r1.Word,r1.Drops,r1.Vers⟩ : Bridge) r7 er7) kr kr kr kr (.inl rfl) ?_
    refine uD 1 64 64 kr kr ?_
    exact te (by obtain rfl := si H; exact fO [(true,(Bridge.row r7))] kr rfl rfl)
   refine tT h3 kr ?_
   refine tG 2 64 64 kr kr ?_
   exact te (by obtain rfl := si H; exact fO [(true,(Bridge.row r1))] kr rfl rfl)
  have H := bifT h2 H
  refine uD 4 134217954 224 kr kr ?_
  refine tt kr ?_
  refine tG 2 64 64 kr kr ?_
  exact te (by obtain rfl := si H; exact fO [(true,(Bridge.row r1))] kr rfl rfl)
 have H := bifT h1 H
 refine uD 13 134217954 224 kr kr ?_
 refine tt kr ?_
 refine tG 2 64 64 kr kr ?_
 exact te (by obtain rfl := si H; exact fO [(true,(Bridge.row r1))] kr rfl rfl)
def spec_l14HearF (n : Nat) (x0 : Net) (x1 : Int) (x2 : Bool) (x3 : Vec) : Option (Net) :=
  ((idx x0.Links x1).bind fun v1 => (bif x2 then ((idx x0.Bridges v1.A).bind fun v4 => ((spec_HearVecF n v4 v1.P x3).bind fun r5 => (some (⟨(x0.Bridges.set (v1.A.toNat) r5),x0.Links,x0.Said⟩ : Net)))) else ((idx x0.Bridges v1.B).bind fun v2 => ((spec_HearVecF n v2 v1.Q x3).bind fun r3 => (some (⟨(x0.Bridges.set (v1.B.toNat) r3),x0.Links,x0.Said⟩ : Net))))))
theorem spec_l14Hear (n : Nat) (x0 : Net) (x1 : Int) (x2 : Bool) (x3 : Vec) (r : Net) (H : spec_l14HearF n x0 x1 x2 x3 = some r) : LCall Tryz.prog 133 [.ptr (Net.row x0),.val false [.lit (.int .i64 x1)],.val false [.lit (.bool x2)],.val true (CV.frzRow (Vec.row x3))] [] [(0,(Net.row r))] := by
 refine LCall.of_body tOk Tryz.func133 rfl (c := (.seq (Rg Tryz.f133 0) (.seq (Rg Tryz.f133 1) (.seq (.seq (Rg Tryz.f133 2) (.cond (.tmp 16) (.seq (Rd Tryz.f133 3) .ret) .skip)) (Rd Tryz.f133 4))))) kr (Nat.le_of_ble_eq_true kr) 1 (rs := []) rfl [] .nil [] [] [(0,(Net.row r))] fun cx => ?_
 show Tr _ _ _ ⟨55,1,[sA 0 0 3 0,sI 1 x1,sB 2 x2,sV 3 (Vec.row x3)],[(0,(Net.row x0))]⟩ _
 unfold spec_l14HearF at H
 refine tG 1 135 129 kr kr ?_
 refine rU 5 kr ?_
 obtain ⟨v1,ev1,H⟩ := bind_some H
 refine lO 26 0 12 13 14 none ⟨(.box 0),[(0,0)],1,true,4,(x0.Links.map Link.row)⟩ x1 (x1.toNat) (Link.row v1) _ kr kr kr kr rfl kr (idx_isE ev1) rfl rfl ?_
 refine LAt.loadE tOk (t := 126) (ty := 126) (x := (.tmp 14)) (d := 15) (g := none) (tI 126) (.box 0) [(0,0),(1,(x1.toNat))] 4 0 [.sl true 3 [(Net.row x0)]] (Link.row v1) _ kr kr kr kr kr (getQ_elemB rfl (idx_get ev1).2) rfl (by intro h; cases h) kr kr rfl ?_
 refine uD 2 389 385 kr kr ?_
 refine tS ?_
 refine tG 1 65921 385 kr kr ?_
 cases h1 : x2
 ·have H := bifF h1 H
  refine tf kr ?_
  refine tK ?_
  obtain ⟨v2,ev2,H⟩ := bind_some H
  obtain ⟨r3,er3,H⟩ := bind_some H
  refine Tr.draw mixed 20 kr ⟨55,1,[sA 0 0 3 0],[(0,[cL 11 (x0.Bridges.set (v1.B.toNat) r3) Bridge.row,cL 4 x0.Links Link.row,cL 7 x0.Said Say.row])]⟩ (fun cx => ?_) ?_
  ·refine aU [(0,[]),(1,[]),(2,[]),(3,[19]),(4,[]),(5,[19]),(6,[]),(7,[]),(8,[]),(9,[17,19]),(10,[]),(11,[17,19])] 8 [⟨[17,19],3,46,47⟩,⟨[17,19],25,44,45⟩,⟨[19],3,40,41⟩,⟨[19],25,38,39⟩] [11,10,9,8,7,6,5,4,3,2,1,0] rfl kr (fun cx => ?_)
   refine aO 12 25 0 45 47 48 none ⟨(.box 0),[(0,0)],0,true,11,(x0.Bridges.map Bridge.row)⟩ v1.B (v1.B.toNat) (Bridge.row v2) _ kr kr kr kr kr kr rfl kr (idx_isE ev2) rfl rfl (fun cx => ?_)
   refine aU [(14,[]),(15,[17,19]),(16,[17,19])] 4 [⟨[17,19],162,7,52⟩,⟨[17,19],3,50,51⟩,⟨[17,19],3,46,47⟩,⟨[17,19],25,44,45⟩,⟨[19],3,40,41⟩,⟨[19],25,38,39⟩] [16,15,14,12,11,10,9,8,7,6,5,4,3,2,1,0] rfl kr (fun cx => ?_)
   refine b1 13 kr kr ?_
   refine LAt.loadE tOk (t := 58) (ty := 58) (x := (.tmp 48)) (d := 49) (g := none) (tI 58) (.box 0) [(0,0),(0,(v1.B.toNat))] 11 0 [.sl true 3 [(Net.row x0)]] (Bridge.row v2) _ kr kr kr kr kr (getQ_elemB rfl (idx_get ev2).2) rfl (by intro h; cases h) kr kr rfl ?_
   refine lF kr kr kr ?_
   refine b1 17 kr kr ?_
   refine LAt.callO tOk [.rd,.rd,.rd] (f := 213) (av := #[.tmp 49,.tmp 51,.tmp 52]) (ats := #[58,3,162]) (d := (some 53)) (ty := 58) (g := none) [(49,Bridge.row v2)] none kr kr kr [.box 0] (spec_HearVec n v2 v1.Q x3 r3 er3) (orc_cons (row := [.sl true 3 [(Net.row x0)]]) (q := [(0,0),(0,(v1.B.toNat))]) kr (getQ_elemB rfl (idx_get ev2).2) orc_nil) kr nr_none (.inr (And.intro (rets_cons (Bridge.row_mine _) rets_nil) outs_nil)) ?_
   refine lF kr kr kr ?_
   refine aO 18 25 0 39 41 54 none ⟨(.box 0),[(0,0)],0,true,11,(x0.Bridges.map Bridge.row)⟩ v1.B (v1.B.toNat) (Bridge.row v2) _ kr kr kr kr kr kr rfl kr (idx_isE ev2) rfl rfl (fun cx => ?_)
   refine b1 19 kr kr ?_
   refine LAt.storeB tOk (t := 58) (ty := 0) (ad := (.tmp 54)) (x := (.tmp 53)) (g := none) (tI 58) true (Bridge.row r3) 0 0 (v1.B.toNat) 11 0 11 x0.Bridges Bridge.row v2 r3 kr kr kr kr kr kr kr kr (idx_get ev2).2 kr kr kr kr ?_
   refine lF kr kr kr ?_
   exact AT.done [0] [0] _ kr kr rfl
  obtain rfl := si H
  exact Fin.ofY _ [] [] _ [] _ [(0,[cL 11 (x0.Bridges.set (v1.B.toNat) r3) Bridge.row,cL 4 x0.Links Link.row,cL 7 x0.Said Say.row])] kr rfl rfl rfl kr kr kr kr rfl rfl rfl
 have H := bifT h1 H
 refine tt kr ?_
 obtain ⟨v4,ev4,H⟩ := bind_some H
 obtain ⟨r5,er5,H⟩ := bind_some H
 refine Tr.draws mixed 20 kr ⟨55,1,[sA 0 0 3 0],[(0,[cL 11 (x0.Bridges.set (v1.A.toNat) r5) Bridge.row,cL 4 x0.Links Link.row,cL 7 x0.Said Say.row])]⟩ (fun cx => ?_) ?_
 ·refine aU [(0,[]),(1,[]),(2,[]),(3,[19]),(4,[]),(5,[19]),(6,[]),(7,[]),(8,[]),(9,[17,19]),(10,[]),(11,[17,19])] 8 [⟨[17,19],3,27,28⟩,⟨[17,19],25,25,26⟩,⟨[19],3,21,22⟩,⟨[19],25,19,20⟩] [11,10,9,8,7,6,5,4,3,2,1,0] rfl kr (fun cx => ?_)
  refine aO 12 25 0 26 28 29 none ⟨(.box 0),[(0,0)],0,true,11,(x0.Bridges.map Bridge.row)⟩ v1.A (v1.A.toNat) (Bridge.row v4) _ kr kr kr kr kr kr rfl kr (idx_isE ev4) rfl rfl (fun cx => ?_)
  refine aU [(14,[]),(15,[17,19]),(16,[17,19])] 4 [⟨[17,19],162,7,33⟩,⟨[17,19],3,31,32⟩,⟨[17,19],3,27,28⟩,⟨[17,19],25,25,26⟩,⟨[19],3,21,22⟩,⟨[19],25,19,20⟩] [16,15,14,12,11,10,9,8,7,6,5,4,3,2,1,0] rfl kr (fun cx => ?_)
  refine b1 13 kr kr ?_
  refine LAt.loadE tOk (t := 58) (ty := 58) (x := (.tmp 29)) (d := 30) (g := none) (tI 58) (.box 0) [(0,0),(0,(v1.A.toNat))] 11 0 [.sl true 3 [(Net.row x0)]] (Bridge.row v4) _ kr kr kr kr kr (getQ_elemB rfl (idx_get ev4).2) rfl (by intro h; cases h) kr kr rfl ?_
  refine lF kr kr kr ?_
  refine b1 17 kr kr ?_
  refine LAt.callO tOk [.rd,.rd,.rd] (f := 213) (av := #[.tmp 30,.tmp 32,.tmp 33]) (ats := #[58,3,162]) (d := (some 34)) (ty := 58) (g := none) [(30,Bridge.row v4)] none kr kr kr [.box 0] (spec_HearVec n v4 v1.P x3 r5 er5) (orc_cons (row := [.sl true 3 [(Net.row x0)]]) (q := [(0,0),(0,(v1.A.toNat))]) kr (getQ_elemB rfl (idx_get ev4).2) orc_nil) kr nr_none (.inr (And.intro (rets_cons (Bridge.row_mine _) rets_nil) outs_nil)) ?_
  refine lF kr kr kr ?_
  refine aO 18 25 0 20 22 35 none ⟨(.box 0),[(0,0)],0,true,11,(x0.Bridges.map Bridge.row)⟩ v1.A (v1.A.toNat) (Bridge.row v4) _ kr kr kr kr kr kr rfl kr (idx_isE ev4) rfl rfl (fun cx => ?_)
  refine b1 19 kr kr ?_
  refine LAt.storeB tOk (t := 58) (ty := 0) (ad := (.tmp 35)) (x := (.tmp 34)) (g := none) (tI 58) true (Bridge.row r5) 0 0 (v1.A.toNat) 11 0 11 x0.Bridges Bridge.row v4 r5 kr kr kr kr kr kr kr kr (idx_get ev4).2 kr kr kr kr ?_
  refine lF kr kr kr ?_
  exact AT.done [0] [0] _ kr kr rfl
 refine te ?_
 obtain rfl := si H
 exact Fin.ofY _ [] [] _ [] _ [(0,[cL 11 (x0.Bridges.set (v1.A.toNat) r5) Bridge.row,cL 4 x0.Links Link.row,cL 7 x0.Said Say.row])] kr rfl rfl rfl kr kr kr kr rfl rfl rfl
def spec_Round_J1 (n : Nat) (y7 : (List Bridge)) (y8 : (List Link)) (y9 : (List Say)) : Option (Net) :=
  (some (⟨y7,y8,y9⟩ : Net))
def spec_Round_L2 (n : Nat) : Nat → Net → Int → (List Bridge) → (List Link) → (List Say) → Option (((List Bridge) × (List Link) × (List Say)) ⊕ (Net))
  | 0,_,_,_,_,_ => none
  | mo10 + 1,x0,y3,y4,y5,y6 => (bif (decide (y3 < (x0.Links.length : Int))) then ((spec_LinkUpF n x0 y3).bind fun r11 => (bif r11 then ((spec_l14SayF n x0 y3 true).bind fun r12 => ((spec_l14HearF n (⟨y4,y5,y6⟩ : Net) y3 true r12).bind fun r13 => ((spec_l14SayF n x0 y3 false).bind fun r14 => ((spec_l14HearF n r13 y3 false r14).bind fun r15 => (spec_Round_L2 n mo10 x0 (IntKind.wrap .i64 (y3 + 1)) r15.Bridges r15.Links r15.Said))))) else (spec_Round_L2 n mo10 x0 (IntKind.wrap .i64 (y3 + 1)) y4 y5 y6))) else (some (Sum.inl (y4,y5,y6))))
def spec_RoundF (n : Nat) (x0 : Net) : Option (Net) :=
  ((spec_l13CopyF n x0).bind fun r1 => ((spec_NetOkF n x0).bind fun r2 => (bif (!r2) then (some r1) else ((spec_Round_L2 n n x0 0 r1.Bridges r1.Links ([] : List Say)).bind fun o => match o with | .inl (y7,y8,y9) => (spec_Round_J1 n y7 y8 y9) | .inr r => some r))))
noncomputable abbrev G39 (k : Nat) := Rg Tryz.f39 k
theorem spec_Round (n : Nat) (x0 : Net) (r : Net) (H : spec_RoundF n x0 = some r) : LCall Tryz.prog 39 [.val true (CV.frzRow (Net.row x0))] [.val true (Net.row r)] [] := by
 refine LCall.of_body tOk Tryz.func39 rfl (c := (.seq (G39 0) (.seq (G39 1) (.seq (.seq (G39 2) (.cond (.tmp 9) (.seq (G39 3) .ret) .skip)) (.seq (G39 4) (.seq (.seq (G39 5) (.block 0 (.loop (.seq (.seq (G39 6) (.cond (.tmp 17) .skip (.exit 0))) (.seq (.block 1 (.seq (G39 8) (.cond (.tmp 22) (.seq (G39 9) (G39 10)) .skip))) (G39 7)))))) (.seq (G39 11) .ret))))))) kr (Nat.le_of_ble_eq_true kr) 0 (rs := [.cell 2 29]) rfl [] .nil [(true,(Net.row r))] [] [] fun cx => ?_
 show Tr _ _ _ ⟨34,0,[sV 0 (CV.frzRow (Net.row x0))],[]⟩ _
 unfold spec_RoundF at H
 refine tG 2 6 6 kr kr ?_
 refine rU 1 kr ?_
 obtain ⟨r1,er1,H⟩ := bind_some H
 refine lV [.rd] [] (spec_l13Copy n x0 r1 er1) kr kr kr kr (.inl rfl) ?_
 refine uD 2 14 14 kr kr ?_
 refine tS ?_
 refine rU 1 kr ?_
 obtain ⟨r2,er2,H⟩ := bind_some H
 refine lV [.rd] [] (spec_NetOk n x0 r2 er2) kr kr kr kr (.inl rfl) ?_
 refine uD 1 526 14 kr kr ?_
 obtain ⟨h1,H⟩ | ⟨h1,H⟩ := bC H
 ·refine tF h1 kr ?_
  refine tK ?_
  refine tG 3 14 14 kr kr ?_
  refine tS ?_
  refine tG 1 30 14 kr kr ?_
  obtain ⟨o10,eo10,Ho10⟩ := bind_some H
  clear H
  refine Tr.mid (ι := (List Bridge) × (List Link) × (List Say)) (fun v => ⟨34,0,[sA 3 3 3 0,sA 2 2 3 0],[(3,[cL 11 v.1 Bridge.row,cL 4 v.2.1 Link.row,cL 7 v.2.2 Say.row]),(2,[cL 11 ([] : List Bridge) Bridge.row,cL 4 ([] : List Link) Link.row,cL 7 ([] : List Say) Say.row])]⟩) (fun v => spec_Round_J1 n v.1 v.2.1 v.2.2 = some r) ?_ ?_
  ·refine tB ?_
   refine Tr.loop (ι := Nat × (Int × (List Bridge) × (List Link) × (List Say))) (fun v => ⟨34,0,[sI 4 v.2.1,sA 3 3 3 0,sA 2 2 3 0,sA 1 1 3 0],[(3,[cL 11 v.2.2.1 Bridge.row,cL 4 v.2.2.2.1 Link.row,cL 7 v.2.2.2.2 Say.row]),(2,[cL 11 ([] : List Bridge) Bridge.row,cL 4 ([] : List Link) Link.row,cL 7 ([] : List Say) Say.row]),(1,(CV.frzRow (Net.row x0)))]⟩) (fun v => spec_Round_L2 n v.1 x0 v.2.1 v.2.2.1 v.2.2.2.1 v.2.2.2.2 = some o10) (fun v => v.1) (n,(0,r1.Bridges,r1.Links,([] : List Say))) eo10 (St.sub_of [4,3,2,1] [3,2,1] kr) ?_
   rintro ⟨mo10,y3,y4,y5,y6⟩ H
   have H : spec_Round_L2 n mo10 x0 y3 y4 y5 y6 = some o10 := H
   obtain _ | mo10 := mo10
   ·cases (show (none : Option _) = some o10 from H)
   rw [spec_Round_L2] at H
   refine tS ?_
   refine rU 3 kr ?_
   refine lL 26 3 126 15 16 none ⟨(.slot 15),[],0,false,4,(CV.frzEs (x0.Links.map Link.row))⟩ (x0.Links).length _ kr kr kr kr kr (frz_len _ _) rfl ?_
   refine uD 1 131102 14 kr kr ?_
   obtain ⟨h2,H⟩ | ⟨h2,H⟩ := bC H
   ·refine tF h2 kr ?_
    refine Tr.exit ?_
    refine And.intro (fun _ => ?_) (fun h => absurd rfl h)
    obtain rfl := si H
    have H := Ho10
    dsimp only at H
    exact jn (y4,y5,y6) H (sB_ [3,2] [3,2] kr)
   refine tT h2 kr ?_
   refine tK ?_
   refine tS ?_
   refine tB ?_
   refine rU 2 kr ?_
   obtain ⟨r11,er11,H⟩ := bind_some H
   refine lV [.rd,.rd] [] (spec_LinkUp n x0 y3 r11 er11) kr kr kr kr (.inl rfl) ?_
   refine lD 4194334 14 kr ?_
   cases h3 : r11
   ·have H := bifF h3 H
    refine tf kr ?_
    refine tK ?_
    refine tE 3 30 14 kr kr ?_
    exact jn (mo10,((w6 (y3 + 1)),y4,y5,y6)) H (sM mo10 [4,3,2,1] [3,2,1] kr)
   have H := bifT h3 H
   refine tt kr ?_
   refine rU 3 kr ?_
   obtain ⟨r12,er12,H⟩ := bind_some H
   refine lV [.rd,.rd,.rd] [] (spec_l14Say n x0 y3 true r12 er12) kr kr kr kr (.inl rfl) ?_
   obtain ⟨r13,er13,H⟩ := bind_some H
   refine LAt.callL tOk [.lend,.rd,.rd,.rd] (f := 133) (av := #[.tmp 3,.tmp 23,.const (.bool true),.tmp 26]) (ats := #[160,3,4,162]) (d := (some 27)) (ty := 0) (g := none) kr kr kr [] (spec_l14Hear n (⟨y4,y5,y6⟩ : Net) y3 true r12 r13 er13) kr (.inl rfl) ?_
   refine lD 30 14 kr ?_
   refine Tr.at ?_
   refine lU 3 kr ?_
   obtain ⟨r14,er14,H⟩ := bind_some H
   refine lV [.rd,.rd,.rd] [] (spec_l14Say n x0 y3 false r14 er14) kr kr kr kr (.inl rfl) ?_
   obtain ⟨r15,er15,H⟩ := bind_some H
   refine LAt.callL tOk [.lend,.rd,.rd,.rd] (f := 133) (av := #[.tmp 3,.tmp 28,.const (.bool false),.tmp 31]) (ats := #[160,3,4,162]) (d := (some 32)) (ty := 0) (g := none) kr kr kr [] (spec_l14Hear n r13 y3 false r14 r15 er15) kr (.inl rfl) ?_
   refine lD 30 14 kr ?_
   refine tE 3 30 14 kr kr ?_
   exact jn (mo10,((w6 (y3 + 1)),r15.Bridges,r15.Links,r15.Said)) H (sM mo10 [4,3,2,1] [3,2,1] kr)
  rintro ⟨y7,y8,y9⟩ H
  have H : (spec_Round_J1 n y7 y8 y9) = some r := H
  unfold spec_Round_J1 at H
  refine tG 2 4 4 kr kr ?_
  exact te (by obtain rfl := si H; exact fO [(true,[cL 11 y7 Bridge.row,cL 4 y8 Link.row,cL 7 y9 Say.row])] kr rfl rfl)
 refine tT h1 kr ?_
 refine tG 2 4 4 kr kr ?_
 exact te (by obtain rfl := si H; exact fO [(true,(Net.row r1))] kr rfl rfl)
def spec_Rounds_J1 (n : Nat) (y6 : (List Bridge)) (y7 : (List Link)) (y8 : (List Say)) : Option (Net) :=
  (some (⟨y6,y7,y8⟩ : Net))
def spec_Rounds_L2 (n : Nat) : Nat → Int → Int → (List Bridge) → (List Link) → (List Say) → Option (((List Bridge) × (List Link) × (List Say)) ⊕ (Net))
  | 0,_,_,_,_,_ => none
  | mo9 + 1,x1,y2,y3,y4,y5 => (bif (decide (y2 < x1)) then (bif (decide (y2 < 30)) then ((spec_RoundF n (⟨y3,y4,y5⟩ : Net)).bind fun r10 => (spec_Rounds_L2 n mo9 x1 (IntKind.wrap .i64 (y2 + 1)) r10.Bridges r10.Links r10.Said)) else (some (Sum.inl (y3,y4,y5)))) else (some (Sum.inl (y3,y4,y5))))
def spec_RoundsF (n : Nat) (x0 : Net) (x1 : Int) : Option (Net) :=
  ((spec_l13CopyF n x0).bind fun r1 => ((spec_Rounds_L2 n n x1 0 r1.Bridges r1.Links r1.Said).bind fun o => match o with | .inl (y6,y7,y8) => (spec_Rounds_J1 n y6 y7 y8) | .inr r => some r))
noncomputable abbrev G42 (k : Nat) := Rg Tryz.f42 k
theorem spec_Rounds (n : Nat) (x0 : Net) (x1 : Int) (r : Net) (H : spec_RoundsF n x0 x1 = some r) : LCall Tryz.prog 42 [.val true (CV.frzRow (Net.row x0)),.val false [.lit (.int .i64 x1)]] [.val true (Net.row r)] [] := by
 refine LCall.of_body tOk Tryz.func42 rfl (c := (.seq (G42 0) (.seq (G42 1) (.seq (.seq (G42 2) (.block 0 (.loop (.seq (.seq (G42 3) (.cond (.tmp 15) .skip (.exit 0))) (.seq (.block 1 (G42 5)) (G42 4)))))) (.seq (G42 6) .ret))))) kr (Nat.le_of_ble_eq_true kr) 0 (rs := [.cell 4 29]) rfl [] .nil [(true,(Net.row r))] [] [] fun cx => ?_
 show Tr _ _ _ ⟨21,0,[sV 0 (CV.frzRow (Net.row x0)),sI 1 x1],[]⟩ _
 unfold spec_RoundsF at H
 refine tG 2 22 20 kr kr ?_
 refine rU 1 kr ?_
 obtain ⟨r1,er1,H⟩ := bind_some H
 refine lV [.rd] [] (spec_l13Copy n x0 r1 er1) kr kr kr kr (.inl rfl) ?_
 refine uD 2 50 48 kr kr ?_
 refine tS ?_
 refine tG 1 114 48 kr kr ?_
 obtain ⟨o9,eo9,Ho9⟩ := bind_some H
 clear H
 refine Tr.mid (ι := (List Bridge) × (List Link) × (List Say)) (fun v => ⟨21,0,[sA 5 5 3 0,sA 4 4 3 0],[(5,[cL 11 v.1 Bridge.row,cL 4 v.2.1 Link.row,cL 7 v.2.2 Say.row]),(4,[cL 11 ([] : List Bridge) Bridge.row,cL 4 ([] : List Link) Link.row,cL 7 ([] : List Say) Say.row])]⟩) (fun v => spec_Rounds_J1 n v.1 v.2.1 v.2.2 = some r) ?_ ?_
 ·refine tB ?_
  refine Tr.loop (ι := Nat × (Int × (List Bridge) × (List Link) × (List Say))) (fun v => ⟨21,0,[sI 6 v.2.1,sA 5 5 3 0,sA 4 4 3 0,sI 1 x1],[(5,[cL 11 v.2.2.1 Bridge.row,cL 4 v.2.2.2.1 Link.row,cL 7 v.2.2.2.2 Say.row]),(4,[cL 11 ([] : List Bridge) Bridge.row,cL 4 ([] : List Link) Link.row,cL 7 ([] : List Say) Say.row])]⟩) (fun v => spec_Rounds_L2 n v.1 x1 v.2.1 v.2.2.1 v.2.2.2.1 v.2.2.2.2 = some o9) (fun v => v.1) (n,(0,r1.Bridges,r1.Links,r1.Said)) eo9 (St.sub_of [6,5,4,1] [5,4] kr) ?_
  rintro ⟨mo9,y2,y3,y4,y5⟩ H
  have H : spec_Rounds_L2 n mo9 x1 y2 y3 y4 y5 = some o9 := H
  obtain _ | mo9 := mo9
  ·cases (show (none : Option _) = some o9 from H)
  rw [spec_Rounds_L2] at H
  refine tS ?_
  refine rU 4 kr ?_
  refine lT ⟨21,0,[sB 12 (decide (y2 < x1)),sB 11 (decide (y2 < x1)),sI 10 x1,sI 9 y2,sI 6 y2,sA 5 5 3 0,sA 4 4 3 0,sI 1 x1],[(5,[cL 11 y3 Bridge.row,cL 4 y4 Link.row,cL 7 y5 Say.row]),(4,[cL 11 ([] : List Bridge) Bridge.row,cL 4 ([] : List Link) Link.row,cL 7 ([] : List Say) Say.row])]⟩ kr ?_
  cases h1 : (decide (y2 < x1))
  ·have H := bifF h1 H
   refine uD 3 32882 48 kr kr ?_
   refine tf kr ?_
   refine Tr.exit ?_
   refine And.intro (fun _ => ?_) (fun h => absurd rfl h)
   obtain rfl := si H
   have H := Ho9
   dsimp only at H
   exact jn (y3,y4,y5) H (sB_ [5,4] [5,4] kr)
  have H := bifT h1 H
  refine uD 3 32882 48 kr kr ?_
  obtain ⟨h2,H⟩ | ⟨h2,H⟩ := bC H
  ·refine tF h2 kr ?_
   refine Tr.exit ?_
   refine And.intro (fun _ => ?_) (fun h => absurd rfl h)
   obtain rfl := si H
   have H := Ho9
   dsimp only at H
   exact jn (y3,y4,y5) H (sB_ [5,4] [5,4] kr)
  refine tT h2 kr ?_
  refine tK ?_
  refine tS ?_
  refine tB ?_
  refine Tr.at ?_
  refine lU 1 kr ?_
  obtain ⟨r10,er10,H⟩ := bind_some H
  refine lV [.rd] [.box 5] (spec_Round n (⟨y3,y4,y5⟩ : Net) r10 er10) kr kr kr kr (.inr (rets_cons (Net.row_mine _) rets_nil)) ?_
  refine uD 1 114 48 kr kr ?_
  refine tE 3 114 48 kr kr ?_
  exact jn (mo9,((w6 (y2 + 1)),r10.Bridges,r10.Links,r10.Said)) H (sM mo9 [6,5,4,1] [5,4] kr)
 rintro ⟨y6,y7,y8⟩ H
 have H : (spec_Rounds_J1 n y6 y7 y8) = some r := H
 unfold spec_Rounds_J1 at H
 refine tG 2 16 16 kr kr ?_
 exact te (by obtain rfl := si H; exact fO [(true,[cL 11 y6 Bridge.row,cL 4 y7 Link.row,cL 7 y8 Say.row])] kr rfl rfl)
def impl_copyFdbF (n : Nat) (x0 : (List Fent)) : Option ((List Fent)) :=
  (bif (decide (([] : List Fent).length + x0.length ≤ 268435456)) then (some (([] : List Fent) ++ x0)) else none)
theorem impl_copyFdb (n : Nat) (x0 : (List Fent)) (r : (List Fent)) (H : impl_copyFdbF n x0 = some r) : LCall Tryz.prog 205 [.val false [.sl false 5 (CV.frzEs (x0.map Fent.row))]] [.val false [.sl true 5 (r.map Fent.row)]] [] := by
 refine LCall.of_body tOk Tryz.func205 rfl (c := (.seq (Rg Tryz.f205 0) (.seq (Rg Tryz.f205 1) .ret))) kr (Nat.le_of_ble_eq_true kr) 0 (rs := [.tmp 2]) rfl [] .nil [(false,[.sl true 5 (r.map Fent.row)])] [] [] fun cx => ?_
 show Tr _ _ _ ⟨5,0,[sC 0 (cF 5 x0 Fent.row)],[]⟩ _
 unfold impl_copyFdbF at H
 refine tG 1 1 0 kr kr ?_
 refine rU 1 kr ?_
 obtain ⟨hg1,H⟩ := guard_some H
 refine LAt.appCU tOk (t := 53) (ty := 53) (e := 184) (x := (.const (.slice none 0 0))) (y := (.tmp 3)) (d := 4) (g := none) (tI 184) Fent.row ([] : List Fent) x0 ⟨(.slot 3),[],0,false,5,(CV.frzEs (x0.map Fent.row))⟩ kr kr kr kr kr kr kr kr kr kr kr (.inr rfl) (fun _ => rfl) (fun _ => rfl) hg1 ?_
 refine LAt.moveU (T := lk tab) (ty := 53) (x := (.tmp 4)) (d := 2) (g := none) false [cL 5 (([] : List Fent) ++ x0) Fent.row] kr kr kr kr kr ?_
 refine lD 4 0 kr ?_
 exact te (by obtain rfl := si H; exact fO [(false,[cL 5 (([] : List Fent) ++ x0) Fent.row])] kr rfl rfl)
def impl_copyIntsF (n : Nat) (x0 : (List Int)) : Option ((List Int)) :=
  (bif (decide (([] : List Int).length + x0.length ≤ 268435456)) then (some (([] : List Int) ++ x0)) else none)
theorem impl_copyInts (n : Nat) (x0 : (List Int)) (r : (List Int)) (H : impl_copyIntsF n x0 = some r) : LCall Tryz.prog 248 [.val false [.sl false 1 (CV.frzEs (x0.map intRow))]] [.val false [.sl true 1 (r.map intRow)]] [] := by
 refine LCall.of_body tOk Tryz.func248 rfl (c := (.seq (Rg Tryz.f248 0) (.seq (Rg Tryz.f248 1) .ret))) kr (Nat.le_of_ble_eq_true kr) 0 (rs := [.tmp 2]) rfl [] .nil [(false,[.sl true 1 (r.map intRow)])] [] [] fun cx => ?_
 show Tr _ _ _ ⟨5,0,[sC 0 (cF 1 x0 intRow)],[]⟩ _
 unfold impl_copyIntsF at H
 refine tG 1 1 0 kr kr ?_
 refine rU 1 kr ?_
 obtain ⟨hg1,H⟩ := guard_some H
 refine LAt.appCU tOk (t := 22) (ty := 22) (e := 3) (x := (.const (.slice none 0 0))) (y := (.tmp 3)) (d := 4) (g := none) (tI 3) intRow ([] : List Int) x0 ⟨(.slot 3),[],0,false,1,(CV.frzEs (x0.map intRow))⟩ kr kr kr kr kr kr kr kr kr kr kr (.inr rfl) (fun _ => rfl) (fun _ => rfl) hg1 ?_
 refine LAt.moveU (T := lk tab) (ty := 22) (x := (.tmp 4)) (d := 2) (g := none) false [cL 1 (([] : List Int) ++ x0) intRow] kr kr kr kr kr ?_
 refine lD 4 0 kr ?_
 exact te (by obtain rfl := si H; exact fO [(false,[cL 1 (([] : List Int) ++ x0) intRow])] kr rfl rfl)
def impl_copyVtabF (n : Nat) (x0 : Vtab) : Option (Vtab) :=
  (bif (decide (([] : List Vrow).length + x0.Rows.length ≤ 268435456)) then ((impl_copyIntsF n x0.Pvid).bind fun r2 => (some (⟨(([] : List Vrow) ++ x0.Rows),r2⟩ : Vtab))) else none)
theorem impl_copyVtab (n : Nat) (x0 : Vtab) (r : Vtab) (H : impl_copyVtabF n x0 = some r) : LCall Tryz.prog 206 [.val true (CV.frzRow (Vtab.row x0))] [.val true (Vtab.row r)] [] := by
 refine LCall.of_body tOk Tryz.func206 rfl (c := (.seq (Rg Tryz.f206 0) (.seq (Rd Tryz.f206 1) .ret))) kr (Nat.le_of_ble_eq_true kr) 0 (rs := [.cell 2 56]) rfl [] .nil [(true,(Vtab.row r))] [] [] fun cx => ?_
 show Tr _ _ _ ⟨10,0,[sV 0 (CV.frzRow (Vtab.row x0))],[]⟩ _
 unfold impl_copyVtabF at H
 refine tG 2 6 6 kr kr ?_
 obtain ⟨hg1,H⟩ := guard_some H
 obtain ⟨r2,er2,H⟩ := bind_some H
 refine Tr.draws mixed 8 kr ⟨10,0,[sA 2 2 2 0],[(2,[cL 3 (([] : List Vrow) ++ x0.Rows) Vrow.row,cL 1 r2 intRow])]⟩ (fun cx => ?_) ?_
 ·refine aU [(0,[]),(1,[2,5,6,7]),(3,[]),(4,[5,6,7])] 4 [⟨[5,6,7],22,6,7⟩,⟨[2,5,6,7],54,3,4⟩] [4,3,1,0] rfl kr (fun cx => ?_)
  refine b1 2 kr kr ?_
  refine LAt.appCU tOk (t := 54) (ty := 54) (e := 190) (x := (.const (.slice none 0 0))) (y := (.tmp 4)) (d := 5) (g := none) (tI 190) Vrow.row ([] : List Vrow) x0.Rows ⟨(.box 1),[(0,0)],0,false,3,(CV.frzEs (x0.Rows.map Vrow.row))⟩ kr kr kr kr kr kr kr kr kr kr kr (.inr rfl) (fun _ => rfl) (fun _ => rfl) hg1 ?_
  refine lF kr kr kr ?_
  refine b1 5 kr kr ?_
  refine lV [.rd] [] (impl_copyInts n x0.Pvid r2 er2) kr kr kr kr (.inl rfl) ?_
  refine lF kr kr kr ?_
  refine b1 6 kr kr ?_
  refine lU 1 kr ?_
  refine lF kr kr kr ?_
  refine b1 7 kr kr ?_
  refine lU 1 kr ?_
  refine lF kr kr kr ?_
  exact AT.done [2] [2] _ kr kr rfl
 exact te (by obtain rfl := si H; exact fO [(true,[cL 3 (([] : List Vrow) ++ x0.Rows) Vrow.row,cL 1 r2 intRow])] kr rfl rfl)
def impl_copyBridgeF (n : Nat) (x0 : Bridge) : Option (Bridge) :=
  (bif (decide (([] : List Pt).length + x0.Ports.length ≤ 268435456)) then ((impl_copyFdbF n x0.F).bind fun r2 => ((impl_copyVtabF n x0.V).bind fun r3 => (some (⟨x0.Id,x0.Name,(([] : List Pt) ++ x0.Ports),r2,r3,x0.Ticks,x0.Parse,x0.Word,x0.Drops,x0.Vers⟩ : Bridge)))) else none)
theorem impl_copyBridge (n : Nat) (x0 : Bridge) (r : Bridge) (H : impl_copyBridgeF n x0 = some r) : LCall Tryz.prog 110 [.val true (CV.frzRow (Bridge.row x0))] [.val true (Bridge.row r)] [] := by
 refine LCall.of_body tOk Tryz.func110 rfl (c := (.seq (Rg Tryz.f110 0) (.seq (Rg Tryz.f110 1) (.seq (Rd Tryz.f110 2) (.seq (Rg Tryz.f110 3) .ret))))) kr (Nat.le_of_ble_eq_true kr) 0 (rs := [.cell 2 58]) rfl [] .nil [(true,(Bridge.row r))] [] [] fun cx => ?_
 show Tr _ _ _ ⟨16,0,[sV 0 (CV.frzRow (Bridge.row x0))],[]⟩ _
 unfold impl_copyBridgeF at H
 refine tG 2 6 6 kr kr ?_
 refine rU 2 kr ?_
 obtain ⟨hg1,H⟩ := guard_some H
 refine LAt.appCU tOk (t := 52) (ty := 52) (e := 182) (x := (.const (.slice none 0 0))) (y := (.tmp 4)) (d := 5) (g := none) (tI 182) Pt.row ([] : List Pt) x0.Ports ⟨(.slot 4),[],0,false,8,(CV.frzEs (x0.Ports.map Pt.row))⟩ kr kr kr kr kr kr kr kr kr kr kr (.inr rfl) (fun _ => rfl) (fun _ => rfl) hg1 ?_
 refine uD 2 6 6 kr kr ?_
 obtain ⟨r2,er2,H⟩ := bind_some H
 obtain ⟨r3,er3,H⟩ := bind_some H
 refine Tr.draws mixed 10 kr ⟨16,0,[sA 2 2 11 0,sA 1 1 11 0],[(1,[cI x0.Id,cS x0.Name,cL 8 (([] : List Pt) ++ x0.Ports) Pt.row,cL 5 r2 Fent.row,cL 3 r3.Rows Vrow.row,cL 1 r3.Pvid intRow,cI x0.Ticks,cI x0.Parse,cI x0.Word,cI x0.Drops,cI x0.Vers]),(2,[cI 0,cS (⟨#[]⟩ : ByteArray),cL 8 ([] : List Pt) Pt.row,cL 5 ([] : List Fent) Fent.row,cL 3 ([] : List Vrow) Vrow.row,cL 1 ([] : List Int) intRow,cI 0,cI 0,cI 0,cI 0,cI 0])]⟩ (fun cx => ?_) ?_
 ·refine aU [(0,[]),(1,[2,5,7,9]),(3,[]),(4,[5,7,9])] 6 [⟨[5,7,9],56,10,11⟩,⟨[2,5,7,9],53,7,8⟩] [4,3,1,0] rfl kr (fun cx => ?_)
  refine b1 2 kr kr ?_
  refine lV [.rd] [] (impl_copyFdb n x0.F r2 er2) kr kr kr kr (.inl rfl) ?_
  refine lF kr kr kr ?_
  refine aU [(6,[])] 4 [⟨[5,7,9],56,10,11⟩,⟨[2,5,7,9],53,7,8⟩] [6,2,4,3,1,0] rfl kr (fun cx => ?_)
  refine b1 5 kr kr ?_
  refine lV [.rd] [] (impl_copyVtab n x0.V r3 er3) kr kr kr kr (.inl rfl) ?_
  refine lF kr kr kr ?_
  refine b1 7 kr kr ?_
  refine lU 1 kr ?_
  refine lF kr kr kr ?_
  refine aU [(8,[])] 1 [⟨[5,7,9],56,10,11⟩,⟨[2,5,7,9],53,7,8⟩] [8,7,5,6,2,4,3,1,0] rfl kr (fun cx => ?_)
  refine b1 9 kr kr ?_
  refine lU 1 kr ?_
  refine lF kr kr kr ?_
  exact AT.done [2,1] [1,2] _ kr kr rfl
 refine tG 2 4 4 kr kr ?_
 exact te (by obtain rfl := si H; exact fO [(true,[cI x0.Id,cS x0.Name,cL 8 (([] : List Pt) ++ x0.Ports) Pt.row,cL 5 r2 Fent.row,cL 3 r3.Rows Vrow.row,cL 1 r3.Pvid intRow,cI x0.Ticks,cI x0.Parse,cI x0.Word,cI x0.Drops,cI x0.Vers])] kr rfl rfl)
def impl_copyNet_J1 (n : Nat) (x0 : Net) (y5 : (List Bridge)) : Option (Net) :=
  (some (⟨y5,(([] : List Link) ++ x0.Links),(([] : List Say) ++ x0.Said)⟩ : Net))
def impl_copyNet_L2 (n : Nat) : Nat → Net → Int → (List Bridge) → Option (((List Bridge)) ⊕ (Net))
  | 0,_,_,_ => none
  | mo6 + 1,x0,y3,y4 => (bif (decide (y3 < (x0.Bridges.length : Int))) then ((idx x0.Bridges y3).bind fun v7 => ((impl_copyBridgeF n v7).bind fun r8 => (bif (decide (y4.length + [r8].length ≤ 268435456)) then (impl_copyNet_L2 n mo6 x0 (IntKind.wrap .i64 (y3 + 1)) (y4 ++ [r8])) else none))) else (some (Sum.inl y4)))
def impl_copyNetF (n : Nat) (x0 : Net) : Option (Net) :=
  (bif (decide (([] : List Link).length + x0.Links.length ≤ 268435456)) then (bif (decide (([] : List Say).length + x0.Said.length ≤ 268435456)) then ((impl_copyNet_L2 n n x0 0 ([] : List Bridge)).bind fun o => match o with | .inl y5 => (impl_copyNet_J1 n x0 y5) | .inr r => some r) else none) else none)
noncomputable abbrev G137 (k : Nat) := Rg Tryz.f137 k
theorem impl_copyNet (n : Nat) (x0 : Net) (r : Net) (H : impl_copyNetF n x0 = some r) : LCall Tryz.prog 137 [.val true (CV.frzRow (Net.row x0))] [.val true (Net.row r)] [] := by
 refine LCall.of_body tOk Tryz.func137 rfl (c := (.seq (G137 0) (.seq (Rd Tryz.f137 1) (.seq (.seq (G137 2) (.block 0 (.loop (.seq (G137 3) (.seq (.cond (.tmp 17) .skip (.exit 0)) (.seq (.block 1 (.seq (G137 4) (Rd Tryz.f137 5))) (G137 6))))))) (.seq (G137 7) .ret))))) kr (Nat.le_of_ble_eq_true kr) 0 (rs := [.cell 2 29]) rfl [] .nil [(true,(Net.row r))] [] [] fun cx => ?_
 show Tr _ _ _ ⟨29,0,[sV 0 (CV.frzRow (Net.row x0))],[]⟩ _
 unfold impl_copyNetF at H
 refine tG 2 6 6 kr kr ?_
 obtain ⟨hg1,H⟩ := guard_some H
 obtain ⟨hg2,H⟩ := guard_some H
 refine Tr.draws mixed 9 kr ⟨29,0,[sA 3 3 3 0,sA 2 2 3 0,sA 1 1 3 0],[(3,[cL 11 ([] : List Bridge) Bridge.row,cL 4 (([] : List Link) ++ x0.Links) Link.row,cL 7 (([] : List Say) ++ x0.Said) Say.row]),(2,[cL 11 ([] : List Bridge) Bridge.row,cL 4 ([] : List Link) Link.row,cL 7 ([] : List Say) Say.row]),(1,(CV.frzRow (Net.row x0)))]⟩ (fun cx => ?_) ?_
 ·refine aU [(0,[]),(1,[2,5,6,8]),(3,[]),(4,[5,6,8])] 5 [⟨[5,6,8],27,9,10⟩,⟨[2,5,6,8],26,6,7⟩] [4,3,1,0] rfl kr (fun cx => ?_)
  refine AT.big2 tOk 2 7 kr (And.intro kr ?_) (And.intro kr ?_)
  ·refine LAt.appCU tOk (t := 26) (ty := 26) (e := 126) (x := (.const (.slice none 0 0))) (y := (.tmp 7)) (d := 8) (g := none) (tI 126) Link.row ([] : List Link) x0.Links ⟨(.box 1),[(0,0)],1,false,4,(CV.frzEs (x0.Links.map Link.row))⟩ kr kr kr kr kr kr kr kr kr kr kr (.inr rfl) (fun _ => rfl) (fun _ => rfl) hg1 ?_
   refine lF kr kr kr ?_
   refine AT.big2 tOk 5 7 kr (And.intro kr ?_) (And.intro kr ?_)
   ·refine LAt.appCU tOk (t := 27) (ty := 27) (e := 195) (x := (.const (.slice none 0 0))) (y := (.tmp 10)) (d := 11) (g := none) (tI 195) Say.row ([] : List Say) x0.Said ⟨(.box 1),[(0,0)],2,false,7,(CV.frzEs (x0.Said.map Say.row))⟩ kr kr kr kr kr kr kr kr kr kr kr (.inr rfl) (fun _ => rfl) (fun _ => rfl) hg2 ?_
    refine lF kr kr kr ?_
    refine AT.big2 tOk 6 7 kr (And.intro kr ?_) (And.intro kr ?_)
    ·refine lU 1 kr ?_
     refine lF kr kr kr ?_
     refine b1 7 kr kr ?_
     refine lU 1 kr ?_
     refine lF kr kr kr ?_
     refine b1 8 kr kr ?_
     refine lU 1 kr ?_
     refine lF kr kr kr ?_
     exact AT.done [3,2,1] [3,2,1] _ kr kr rfl
    ·refine lU 1 kr ?_
     refine lF kr kr kr ?_
     refine b1 6 kr kr ?_
     refine lU 1 kr ?_
     refine lF kr kr kr ?_
     refine b1 8 kr kr ?_
     refine lU 1 kr ?_
     refine lF kr kr kr ?_
     exact AT.done [3,2,1] [3,2,1] _ kr kr rfl
   ·refine lU 1 kr ?_
    refine lF kr kr kr ?_
    refine b1 5 kr kr ?_
    refine LAt.appCU tOk (t := 27) (ty := 27) (e := 195) (x := (.const (.slice none 0 0))) (y := (.tmp 10)) (d := 11) (g := none) (tI 195) Say.row ([] : List Say) x0.Said ⟨(.box 1),[(0,0)],2,false,7,(CV.frzEs (x0.Said.map Say.row))⟩ kr kr kr kr kr kr kr kr kr kr kr (.inr rfl) (fun _ => rfl) (fun _ => rfl) hg2 ?_
    refine lF kr kr kr ?_
    refine b1 6 kr kr ?_
    refine lU 1 kr ?_
    refine lF kr kr kr ?_
    refine b1 8 kr kr ?_
    refine lU 1 kr ?_
    refine lF kr kr kr ?_
    exact AT.done [3,2,1] [3,2,1] _ kr kr rfl
  ·refine lU 1 kr ?_
   refine lF kr kr kr ?_
   refine b1 2 kr kr ?_
   refine LAt.appCU tOk (t := 26) (ty := 26) (e := 126) (x := (.const (.slice none 0 0))) (y := (.tmp 7)) (d := 8) (g := none) (tI 126) Link.row ([] : List Link) x0.Links ⟨(.box 1),[(0,0)],1,false,4,(CV.frzEs (x0.Links.map Link.row))⟩ kr kr kr kr kr kr kr kr kr kr kr (.inr rfl) (fun _ => rfl) (fun _ => rfl) hg1 ?_
   refine lF kr kr kr ?_
   refine b1 5 kr kr ?_
   refine LAt.appCU tOk (t := 27) (ty := 27) (e := 195) (x := (.const (.slice none 0 0))) (y := (.tmp 10)) (d := 11) (g := none) (tI 195) Say.row ([] : List Say) x0.Said ⟨(.box 1),[(0,0)],2,false,7,(CV.frzEs (x0.Said.map Say.row))⟩ kr kr kr kr kr kr kr kr kr kr kr (.inr rfl) (fun _ => rfl) (fun _ => rfl) hg2 ?_
   refine lF kr kr kr ?_
   refine b1 6 kr kr ?_
   refine lU 1 kr ?_
   refine lF kr kr kr ?_
   refine b1 8 kr kr ?_
   refine lU 1 kr ?_
   refine lF kr kr kr ?_
   exact AT.done [3,2,1] [3,2,1] _ kr kr rfl
 refine tS ?_
 refine rU 2 kr ?_
 refine lL 25 3 58 14 15 none ⟨(.slot 14),[],0,false,11,(CV.frzEs (x0.Bridges.map Bridge.row))⟩ (x0.Bridges).length _ kr kr kr kr kr (frz_len _ _) rfl ?_
 refine uD 1 114700 12 kr kr ?_
 obtain ⟨o6,eo6,Ho6⟩ := bind_some H
 clear H
 refine Tr.mid (ι := (List Bridge)) (fun v => ⟨29,0,[sA 3 3 3 0,sA 2 2 3 0],[(3,[cL 11 v Bridge.row,cL 4 (([] : List Link) ++ x0.Links) Link.row,cL 7 (([] : List Say) ++ x0.Said) Say.row]),(2,[cL 11 ([] : List Bridge) Bridge.row,cL 4 ([] : List Link) Link.row,cL 7 ([] : List Say) Say.row])]⟩) (fun v => impl_copyNet_J1 n x0 v = some r) ?_ ?_
 ·refine tB ?_
  refine Tr.loop (ι := Nat × (Int × (List Bridge))) (fun v => ⟨29,0,[sI 16 v.2.1,sI 15 (x0.Bridges.length : Int),sC 14 (cF 11 x0.Bridges Bridge.row),sA 3 3 3 0,sA 2 2 3 0],[(3,[cL 11 v.2.2 Bridge.row,cL 4 (([] : List Link) ++ x0.Links) Link.row,cL 7 (([] : List Say) ++ x0.Said) Say.row]),(2,[cL 11 ([] : List Bridge) Bridge.row,cL 4 ([] : List Link) Link.row,cL 7 ([] : List Say) Say.row])]⟩) (fun v => impl_copyNet_L2 n v.1 x0 v.2.1 v.2.2 = some o6) (fun v => v.1) (n,(0,([] : List Bridge))) eo6 (St.sub_of [16,15,14,3,2] [3,2] kr) ?_
  rintro ⟨mo6,y3,y4⟩ H
  have H : impl_copyNet_L2 n mo6 x0 y3 y4 = some o6 := H
  obtain _ | mo6 := mo6
  ·cases (show (none : Option _) = some o6 from H)
  rw [impl_copyNet_L2] at H
  refine tG 1 245772 12 kr kr ?_
  refine tS ?_
  obtain ⟨h1,H⟩ | ⟨h1,H⟩ := bC H
  ·refine tF h1 kr ?_
   refine Tr.exit ?_
   refine And.intro (fun _ => ?_) (fun h => absurd rfl h)
   obtain rfl := si H
   have H := Ho6
   dsimp only at H
   exact jn y4 H (sB_ [3,2] [3,2] kr)
  refine tT h1 kr ?_
  refine tK ?_
  refine tS ?_
  refine tB ?_
  refine tR ?_
  obtain ⟨v7,ev7,H⟩ := bind_some H
  refine lI 25 0 14 16 18 none ⟨(.slot 14),[],0,false,11,(CV.frzEs (x0.Bridges.map Bridge.row))⟩ y3 (CV.frzRow (Bridge.row v7)) _ kr kr kr kr rfl (idx_isF ev7) rfl ?_
  refine uD 3 114732 44 kr kr ?_
  obtain ⟨r8,er8,H⟩ := bind_some H
  obtain ⟨hg9,H⟩ := guard_some H
  refine Tr.draw mixed 8 kr ⟨29,0,[sI 16 y3,sI 15 (x0.Bridges.length : Int),sC 14 (cF 11 x0.Bridges Bridge.row),sA 3 3 3 0,sA 2 2 3 0],[(3,[cL 11 (y4 ++ [r8]) Bridge.row,cL 4 (([] : List Link) ++ x0.Links) Link.row,cL 7 (([] : List Say) ++ x0.Said) Say.row]),(2,[cL 11 ([] : List Bridge) Bridge.row,cL 4 ([] : List Link) Link.row,cL 7 ([] : List Say) Say.row])]⟩ (fun cx => ?_) ?_
  ·refine aU [(0,[]),(1,[5,7]),(2,[3,4,5,7])] 5 [⟨[3,4,5,7],58,5,22⟩,⟨[5,7],25,20,21⟩] [2,1,0] rfl kr (fun cx => ?_)
   refine b1 3 kr kr ?_
   refine lV [.rd] [] (impl_copyBridge n v7 r8 er8) kr kr kr kr (.inl rfl) ?_
   refine lF kr kr kr ?_
   refine b1 4 kr kr ?_
   refine lU 1 kr ?_
   refine lF kr kr kr ?_
   refine b1 5 kr kr ?_
   refine LAt.appMU tOk (t := 25) (ty := 25) (e := 58) (x := (.tmp 21)) (y := (.tmp 24)) (d := 25) (g := none) (tI 58) Bridge.row y4 [r8] kr kr kr kr kr kr kr kr kr kr hg9 ?_
   refine lF kr kr kr ?_
   refine aU [(6,[])] 1 [⟨[3,4,5,7],58,5,22⟩,⟨[5,7],25,20,21⟩] [6,5,4,3,2,1,0] rfl kr (fun cx => ?_)
   refine b1 7 kr kr ?_
   refine lU 1 kr ?_
   refine lF kr kr kr ?_
   exact AT.done [16,15,14,3,2] [3,2] _ kr kr rfl
  refine tE 2 114700 12 kr kr ?_
  exact jn (mo6,((w6 (y3 + 1)),(y4 ++ [r8]))) H (sM mo6 [16,15,14,3,2] [3,2] kr)
 rintro y5 H
 have H : (impl_copyNet_J1 n x0 y5) = some r := H
 unfold impl_copyNet_J1 at H
 refine tG 2 4 4 kr kr ?_
 exact te (by obtain rfl := si H; exact fO [(true,[cL 11 y5 Bridge.row,cL 4 (([] : List Link) ++ x0.Links) Link.row,cL 7 (([] : List Say) ++ x0.Said) Say.row])] kr rfl rfl)
def impl_inF (n : Nat) (x0 : Int) (x1 : Int) (x2 : Int) : Option (Bool) :=
  (bif (decide (x0 ≥ x1)) then (some (decide (x0 ≤ x2))) else (some false))
theorem impl_in (n : Nat) (x0 : Int) (x1 : Int) (x2 : Int) (r : Bool) (H : impl_inF n x0 x1 x2 = some r) : LCall Tryz.prog 145 [.val false [.lit (.int .i64 x0)],.val false [.lit (.int .i64 x1)],.val false [.lit (.int .i64 x2)]] [.val false [.lit (.bool r)]] [] := by
 refine LCall.of_body tOk Tryz.func145 rfl (c := (.seq (Rg Tryz.f145 0) (.seq (Rg Tryz.f145 1) .ret))) kr (Nat.le_of_ble_eq_true kr) 0 (rs := [.tmp 6]) rfl [] .nil [(false,[.lit (.bool r)])] [] [] fun cx => ?_
 show Tr _ _ _ ⟨15,0,[sI 0 x0,sI 1 x1,sI 2 x2],[]⟩ _
 unfold impl_inF at H
 refine tG 1 7 0 kr kr ?_
 refine rU 4 kr ?_
 refine lT ⟨15,0,[sB 10 (decide (x0 ≥ x1)),sB 9 (decide (x0 ≥ x1)),sI 8 x1,sI 7 x0,sI 0 x0,sI 1 x1,sI 2 x2],[]⟩ kr ?_
 cases h1 : (decide (x0 ≥ x1))
 ·have H := bifF h1 H
  refine uD 5 64 0 kr kr ?_
  exact te (by obtain rfl := si H; exact fO [(false,[cB false])] kr rfl rfl)
 have H := bifT h1 H
 refine uD 5 64 0 kr kr ?_
 exact te (by obtain rfl := si H; exact fO [(false,[cB (decide (x0 ≤ x2))])] kr rfl rfl)
def impl_VecOkF (n : Nat) (x0 : Vec) : Option (Bool) :=
  ((impl_inF n x0.Root 1 99).bind fun r1 => (bif r1 then ((impl_inF n x0.Cost 0 100000).bind fun r2 => (bif r2 then ((impl_inF n x0.Hops 0 10).bind fun r3 => (bif r3 then ((impl_inF n x0.Bridge 1 99).bind fun r4 => (bif r4 then ((impl_inF n x0.Port 0 7).bind fun r5 => (some r5)) else (some false))) else (some false))) else (some false))) else (some false)))
theorem impl_VecOk (n : Nat) (x0 : Vec) (r : Bool) (H : impl_VecOkF n x0 = some r) : LCall Tryz.prog 169 [.val true (CV.frzRow (Vec.row x0))] [.val false [.lit (.bool r)]] [] := by
 refine LCall.of_body tOk Tryz.func169 rfl (c := (.seq (Rg Tryz.f169 0) (.seq (Rg Tryz.f169 1) .ret))) kr (Nat.le_of_ble_eq_true kr) 0 (rs := [.tmp 2]) rfl [] .nil [(false,[.lit (.bool r)])] [] [] fun cx => ?_
 show Tr _ _ _ ⟨26,0,[sV 0 (Vec.row x0)],[]⟩ _
 unfold impl_VecOkF at H
 refine tG 2 2 2 kr kr ?_
 refine rU 2 kr ?_
 obtain ⟨r1,er1,H⟩ := bind_some H
 refine lV [.rd,.rd,.rd] [] (impl_in n x0.Root 1 99 r1 er1) kr kr kr kr (.inl rfl) ?_
 refine lU 1 kr ?_
 refine lT ⟨26,0,[sB 6 r1,sB 5 r1,sI 4 x0.Root,sA 3 1 5 0,sA 1 1 5 0],[(1,(Vec.row x0))]⟩ kr ?_
 cases h1 : r1
 ·have H := bifF h1 H
  refine uD 20 4 0 kr kr ?_
  exact te (by obtain rfl := si H; exact fO [(false,[cB false])] kr rfl rfl)
 have H := bifT h1 H
 refine lU 2 kr ?_
 obtain ⟨r2,er2,H⟩ := bind_some H
 refine lV [.rd,.rd,.rd] [] (impl_in n x0.Cost 0 100000 r2 er2) kr kr kr kr (.inl rfl) ?_
 refine lU 2 kr ?_
 refine lT ⟨26,0,[sB 11 r2,sB 10 r2,sB 9 r2,sI 8 x0.Cost,sA 7 1 5 1,sB 6 true,sB 5 true,sI 4 x0.Root,sA 3 1 5 0,sA 1 1 5 0],[(1,(Vec.row x0))]⟩ kr ?_
 cases h2 : r2
 ·have H := bifF h2 H
  refine uD 15 4 0 kr kr ?_
  exact te (by obtain rfl := si H; exact fO [(false,[cB false])] kr rfl rfl)
 have H := bifT h2 H
 refine lU 2 kr ?_
 obtain ⟨r3,er3,H⟩ := bind_some H
 refine lV [.rd,.rd,.rd] [] (impl_in n x0.Hops 0 10 r3 er3) kr kr kr kr (.inl rfl) ?_
 refine lU 2 kr ?_
 refine lT ⟨26,0,[sB 16 r3,sB 15 r3,sB 14 r3,sI 13 x0.Hops,sA 12 1 5 2,sB 11 true,sB 10 true,sB 9 true,sI 8 x0.Cost,sA 7 1 5 1,sB 6 true,sB 5 true,sI 4 x0.Root,sA 3 1 5 0,sA 1 1 5 0],[(1,(Vec.row x0))]⟩ kr ?_
 cases h3 : r3
 ·have H := bifF h3 H
  refine uD 10 4 0 kr kr ?_
  exact te (by obtain rfl := si H; exact fO [(false,[cB false])] kr rfl rfl)
 have H := bifT h3 H
 refine lU 2 kr ?_
 obtain ⟨r4,er4,H⟩ := bind_some H
 refine lV [.rd,.rd,.rd] [] (impl_in n x0.Bridge 1 99 r4 er4) kr kr kr kr (.inl rfl) ?_
 refine lU 2 kr ?_
 refine lT ⟨26,0,[sB 21 r4,sB 20 r4,sB 19 r4,sI 18 x0.Bridge,sA 17 1 5 3,sB 16 true,sB 15 true,sB 14 true,sI 13 x0.Hops,sA 12 1 5 2,sB 11 true,sB 10 true,sB 9 true,sI 8 x0.Cost,sA 7 1 5 1,sB 6 true,sB 5 true,sI 4 x0.Root,sA 3 1 5 0,sA 1 1 5 0],[(1,(Vec.row x0))]⟩ kr ?_
 cases h4 : r4
 ·have H := bifF h4 H
  refine uD 5 4 0 kr kr ?_
  exact te (by obtain rfl := si H; exact fO [(false,[cB false])] kr rfl rfl)
 have H := bifT h4 H
 refine lU 2 kr ?_
 obtain ⟨r5,er5,H⟩ := bind_some H
 refine lV [.rd,.rd,.rd] [] (impl_in n x0.Port 0 7 r5 er5) kr kr kr kr (.inl rfl) ?_
 refine uD 2 4 0 kr kr ?_
 exact te (by obtain rfl := si H; exact fO [(false,[cB r5])] kr rfl rfl)
def impl_PtOkF (n : Nat) (x0 : Pt) : Option (Bool) :=
  ((impl_inF n x0.Cost 1 1000).bind fun r1 => (bif (!r1) then (some false) else (bif x0.Has then (bif (!x0.Up) then (some false) else ((impl_VecOkF n x0.Heard).bind fun r2 => (some r2))) else (some ((x0.Heard.Root == 0) && ((x0.Heard.Cost == 0) && ((x0.Heard.Hops == 0) && ((x0.Heard.Bridge == 0) && ((x0.Heard.Port == 0) && true)))))))))
noncomputable abbrev G158 (k : Nat) := Rg Tryz.f158 k
theorem impl_PtOk (n : Nat) (x0 : Pt) (r : Bool) (H : impl_PtOkF n x0 = some r) : LCall Tryz.prog 158 [.val true (CV.frzRow (Pt.row x0))] [.val false [.lit (.bool r)]] [] := by
 refine LCall.of_body tOk Tryz.func158 rfl (c := (.seq (G158 0) (.seq (.seq (G158 1) (.cond (.tmp 15) (.seq (G158 2) .ret) .skip)) (.seq (.seq (G158 3) (.cond (.tmp 17) (.seq (G158 4) .ret) .skip)) (.seq (G158 5) .ret))))) kr (Nat.le_of_ble_eq_true kr) 0 (rs := [.tmp 2]) rfl [] .nil [(false,[.lit (.bool r)])] [] [] fun cx => ?_
 show Tr _ _ _ ⟨25,0,[sV 0 (Pt.row x0)],[]⟩ _
 unfold impl_PtOkF at H
 refine tG 2 2 2 kr kr ?_
 refine tS ?_
 refine rU 2 kr ?_
 obtain ⟨r1,er1,H⟩ := bind_some H
 refine lV [.rd,.rd,.rd] [] (impl_in n x0.Cost 1 1000 r1 er1) kr kr kr kr (.inl rfl) ?_
 refine lU 2 kr ?_
 refine lT ⟨25,0,[sB 7 (!r1),sB 6 (!r1),sB 5 r1,sI 4 x0.Cost,sA 3 1 8 1,sA 1 1 8 0],[(1,(Pt.row x0))]⟩ kr ?_
 cases h1 : (!r1)
 ·have H := bifF h1 H
  refine lU 3 kr ?_
  refine lT ⟨25,0,[sB 10 x0.Has,sB 9 x0.Has,sA 8 1 8 2,sB 7 false,sB 6 false,sB 5 r1,sI 4 x0.Cost,sA 3 1 8 1,sA 1 1 8 0],[(1,(Pt.row x0))]⟩ kr ?_
  cases h2 : x0.Has
  ·have H := bifF h2 H
   refine uD 5 32770 2 kr kr ?_
   refine tf kr ?_
   refine tK ?_
   refine tS ?_
   refine tG 2 131074 2 kr kr ?_
   refine tO ⟨25,0,[sB 17 x0.Has,sA 1 1 8 0],[(1,(Pt.row x0))]⟩ kr ?_
   rw [h2]
   refine tf kr ?_
   refine tK ?_
   refine rU 3 kr ?_
   refine LAt.eqSG false (t := 162) (ty := 162) (ty' := 4) (x := (.tmp 22)) (y := (.tmp 23)) (d := 24) (g := none) ((x0.Heard.Root == 0) && ((x0.Heard.Cost == 0) && ((x0.Heard.Hops == 0) && ((x0.Heard.Bridge == 0) && ((x0.Heard.Port == 0) && true))))) _ kr kr kr kr rfl ?_
   refine uD 1 4 0 kr kr ?_
   exact te (by obtain rfl := si H; exact fO [(false,[cB ((x0.Heard.Root == 0) && ((x0.Heard.Cost == 0) && ((x0.Heard.Hops == 0) && ((x0.Heard.Bridge == 0) && ((x0.Heard.Port == 0) && true)))))])] kr rfl rfl)
  have H := bifT h2 H
  refine uD 5 32770 2 kr kr ?_
  obtain ⟨h3,H⟩ | ⟨h3,H⟩ := bC H
  ·refine tF h3 kr ?_
   refine tK ?_
   refine tS ?_
   refine tG 2 131074 2 kr kr ?_
   refine tO ⟨25,0,[sB 17 x0.Has,sA 1 1 8 0],[(1,(Pt.row x0))]⟩ kr ?_
   rw [h2]
   refine tt kr ?_
   refine rU 2 kr ?_
   obtain ⟨r2,er2,H⟩ := bind_some H
   refine lV [.rd] [] (impl_VecOk n x0.Heard r2 er2) kr kr kr kr (.inl rfl) ?_
   refine uD 1 4 0 kr kr ?_
   exact te (by obtain rfl := si H; exact fO [(false,[cB r2])] kr rfl rfl)
  refine tT h3 kr ?_
  refine tG 1 4 0 kr kr ?_
  exact te (by obtain rfl := si H; exact fO [(false,[cB false])] kr rfl rfl)
 have H := bifT h1 H
 refine uD 8 32770 2 kr kr ?_
 refine tt kr ?_
 refine tG 1 4 0 kr kr ?_
 exact te (by obtain rfl := si H; exact fO [(false,[cB false])] kr rfl rfl)
def impl_fentOkF (n : Nat) (x0 : Fent) : Option (Bool) :=
  ((impl_inF n x0.Tag 1 99).bind fun r1 => (bif r1 then ((impl_inF n x0.Mac 1 9999).bind fun r2 => (bif r2 then ((impl_inF n x0.Port 0 7).bind fun r3 => (bif r3 then ((impl_inF n x0.Age 0 4).bind fun r4 => (bif r4 then (bif (!x0.Static) then (some true) else (some (x0.Age == 0))) else (some false))) else (some false))) else (some false))) else (some false)))
theorem impl_fentOk (n : Nat) (x0 : Fent) (r : Bool) (H : impl_fentOkF n x0 = some r) : LCall Tryz.prog 207 [.val true (CV.frzRow (Fent.row x0))] [.val false [.lit (.bool r)]] [] := by
 refine LCall.of_body tOk Tryz.func207 rfl (c := (.seq (Rg Tryz.f207 0) (.seq (Rg Tryz.f207 1) .ret))) kr (Nat.le_of_ble_eq_true kr) 0 (rs := [.tmp 2]) rfl [] .nil [(false,[.lit (.bool r)])] [] [] fun cx => ?_
 show Tr _ _ _ ⟨31,0,[sV 0 (Fent.row x0)],[]⟩ _
 unfold impl_fentOkF at H
 refine tG 2 2 2 kr kr ?_
 refine rU 2 kr ?_
 obtain ⟨r1,er1,H⟩ := bind_some H
 refine lV [.rd,.rd,.rd] [] (impl_in n x0.Tag 1 99 r1 er1) kr kr kr kr (.inl rfl) ?_
 refine lU 1 kr ?_
 refine lT ⟨31,0,[sB 6 r1,sB 5 r1,sI 4 x0.Tag,sA 3 1 5 0,sA 1 1 5 0],[(1,(Fent.row x0))]⟩ kr ?_
 cases h1 : r1
 ·have H := bifF h1 H
  refine uD 25 4 0 kr kr ?_
  exact te (by obtain rfl := si H; exact fO [(false,[cB false])] kr rfl rfl)
 have H := bifT h1 H
 refine lU 2 kr ?_
 obtain ⟨r2,er2,H⟩ := bind_some H
 refine lV [.rd,.rd,.rd] [] (impl_in n x0.Mac 1 9999 r2 er2) kr kr kr kr (.inl rfl) ?_
 refine lU 2 kr ?_
 refine lT ⟨31,0,[sB 11 r2,sB 10 r2,sB 9 r2,sI 8 x0.Mac,sA 7 1 5 1,sB 6 true,sB 5 true,sI 4 x0.Tag,sA 3 1 5 0,sA 1 1 5 0],[(1,(Fent.row x0))]⟩ kr ?_
 cases h2 : r2
 ·have H := bifF h2 H
  refine uD 20 4 0 kr kr ?_
  exact te (by obtain rfl := si H; exact fO [(false,[cB false])] kr rfl rfl)
 have H := bifT h2 H
 refine lU 2 kr ?_
 obtain ⟨r3,er3,H⟩ := bind_some H
 refine lV [.rd,.rd,.rd] [] (impl_in n x0.Port 0 7 r3 er3) kr kr kr kr (.inl rfl) ?_
 refine lU 2 kr ?_
 refine lT ⟨31,0,[sB 16 r3,sB 15 r3,sB 14 r3,sI 13 x0.Port,sA 12 1 5 2,sB 11 true,sB 10 true,sB 9 true,sI 8 x0.Mac,sA 7 1 5 1,sB 6 true,sB 5 true,sI 4 x0.Tag,sA 3 1 5 0,sA 1 1 5 0],[(1,(Fent.row x0))]⟩ kr ?_
 cases h3 : r3
 ·have H := bifF h3 H
  refine uD 15 4 0 kr kr ?_
  exact te (by obtain rfl := si H; exact fO [(false,[cB false])] kr rfl rfl)
 have H := bifT h3 H
 refine lU 2 kr ?_
 obtain ⟨r4,er4,H⟩ := bind_some H
 refine lV [.rd,.rd,.rd] [] (impl_in n x0.Age 0 4 r4 er4) kr kr kr kr (.inl rfl) ?_
 refine lU 2 kr ?_
 refine lT ⟨31,0,[sB 21 r4,sB 20 r4,sB 19 r4,sI 18 x0.Age,sA 17 1 5 3,sB 16 true,sB 15 true,sB 14 true,sI 13 x0.Port,sA 12 1 5 2,sB 11 true,sB 10 true,sB 9 true,sI 8 x0.Mac,sA 7 1 5 1,sB 6 true,sB 5 true,sI 4 x0.Tag,sA 3 1 5 0,sA 1 1 5 0],[(1,(Fent.row x0))]⟩ kr ?_
 cases h4 : r4
 ·have H := bifF h4 H
  refine uD 10 4 0 kr kr ?_
  exact te (by obtain rfl := si H; exact fO [(false,[cB false])] kr rfl rfl)
 have H := bifT h4 H
 refine lU 4 kr ?_
 refine lT ⟨31,0,[sB 25 (!x0.Static),sB 24 (!x0.Static),sB 23 x0.Static,sA 22 1 5 4,sB 21 true,sB 20 true,sB 19 true,sI 18 x0.Age,sA 17 1 5 3,sB 16 true,sB 15 true,sB 14 true,sI 13 x0.Port,sA 12 1 5 2,sB 11 true,sB 10 true,sB 9 true,sI 8 x0.Mac,sA 7 1 5 1,sB 6 true,sB 5 true,sI 4 x0.Tag,sA 3 1 5 0,sA 1 1 5 0],[(1,(Fent.row x0))]⟩ kr ?_
 cases h5 : (!x0.Static)
 ·have H := bifF h5 H
  refine uD 6 4 0 kr kr ?_
  exact te (by obtain rfl := si H; exact fO [(false,[cB (x0.Age == 0)])] kr rfl rfl)
 have H := bifT h5 H
 refine uD 6 4 0 kr kr ?_
 exact te (by obtain rfl := si H; exact fO [(false,[cB true])] kr rfl rfl)
def impl_behindF (n : Nat) (x0 : Fent) (x1 : Int) (x2 : Int) : Option (Bool) :=
  (bif (decide (x0.Tag > x1)) then (some true) else (bif (x0.Tag == x1) then (some (decide (x0.Mac > x2))) else (some false)))
theorem impl_behind (n : Nat) (x0 : Fent) (x1 : Int) (x2 : Int) (r : Bool) (H : impl_behindF n x0 x1 x2 = some r) : LCall Tryz.prog 228 [.val true (CV.frzRow (Fent.row x0)),.val false [.lit (.int .i64 x1)],.val false [.lit (.int .i64 x2)]] [.val false [.lit (.bool r)]] [] := by
 refine LCall.of_body tOk Tryz.func228 rfl (c := (.seq (Rg Tryz.f228 0) (.seq (Rg Tryz.f228 1) .ret))) kr (Nat.le_of_ble_eq_true kr) 0 (rs := [.tmp 6]) rfl [] .nil [(false,[.lit (.bool r)])] [] [] fun cx => ?_
 show Tr _ _ _ ⟨23,0,[sV 0 (Fent.row x0),sI 1 x1,sI 2 x2],[]⟩ _
 unfold impl_behindF at H
 refine tG 2 14 8 kr kr ?_
 refine rU 5 kr ?_
 refine lT ⟨23,0,[sB 11 (decide (x0.Tag > x1)),sB 10 (decide (x0.Tag > x1)),sI 9 x1,sI 8 x0.Tag,sA 7 3 5 0,sA 3 3 5 0,sI 1 x1,sI 2 x2],[(3,(Fent.row x0))]⟩ kr ?_
 cases h1 : (decide (x0.Tag > x1))
 ·have H := bifF h1 H
  refine lU 5 kr ?_
  refine lT ⟨23,0,[sB 16 (x0.Tag == x1),sB 15 (x0.Tag == x1),sI 14 x1,sI 13 x0.Tag,sA 12 3 5 0,sB 11 false,sB 10 false,sI 9 x1,sI 8 x0.Tag,sA 7 3 5 0,sA 3 3 5 0,sI 1 x1,sI 2 x2],[(3,(Fent.row x0))]⟩ kr ?_
  cases h2 : (x0.Tag == x1)
  ·have H := bifF h2 H
   refine uD 7 64 0 kr kr ?_
   exact te (by obtain rfl := si H; exact fO [(false,[cB false])] kr rfl rfl)
  have H := bifT h2 H
  refine uD 7 64 0 kr kr ?_
  exact te (by obtain rfl := si H; exact fO [(false,[cB (decide (x0.Mac > x2))])] kr rfl rfl)
 have H := bifT h1 H
 refine uD 12 64 0 kr kr ?_
 exact te (by obtain rfl := si H; exact fO [(false,[cB true])] kr rfl rfl)
def impl_FdbOk_J1 (n : Nat) (x0 : (List Fent)) : Option (Bool) :=
  (some (decide ((x0.length : Int) ≤ 12)))
def impl_FdbOk_L2 (n : Nat) : Nat → (List Fent) → Int → Option ((Unit) ⊕ (Bool))
  | 0,_,_ => none
  | mo2 + 1,x0,y1 => (bif (decide (y1 < (x0.length : Int))) then ((idx x0 y1).bind fun v3 => ((impl_fentOkF n v3).bind fun r4 => (bif (!r4) then (some (Sum.inr false)) else (bif (decide (y1 > 0)) then ((idx x0 (IntKind.wrap .i64 (y1 - 1))).bind fun v5 => ((idx x0 (IntKind.wrap .i64 (y1 - 1))).bind fun v6 => ((impl_behindF n v3 v5.Tag v6.Mac).bind fun r7 => (bif (!r7) then (some (Sum.inr false)) else (impl_FdbOk_L2 n mo2 x0 (IntKind.wrap .i64 (y1 + 1))))))) else (impl_FdbOk_L2 n mo2 x0 (IntKind.wrap .i64 (y1 + 1))))))) else (some (Sum.inl ())))
def impl_FdbOkF (n : Nat) (x0 : (List Fent)) : Option (Bool) :=
  ((impl_FdbOk_L2 n n x0 0).bind fun o => match o with | .inl _ => (impl_FdbOk_J1 n x0) | .inr r => some r)
noncomputable abbrev G159 (k : Nat) := Rg Tryz.f159 k
theorem impl_FdbOk (n : Nat) (x0 : (List Fent)) (r : Bool) (H : impl_FdbOkF n x0 = some r) : LCall Tryz.prog 159 [.val false [.sl false 5 (CV.frzEs (x0.map Fent.row))]] [.val false [.lit (.bool r)]] [] := by
 refine LCall.of_body tOk Tryz.func159 rfl (c := (.seq (G159 0) (.seq (.seq (G159 1) (.block 0 (.loop (.seq (G159 2) (.seq (.cond (.tmp 8) .skip (.exit 0)) (.seq (.block 1 (.seq (G159 3) (.seq (Rd Tryz.f159 4) (.cond (.tmp 35) (.seq (G159 5) .ret) .skip)))) (G159 6))))))) (.seq (G159 7) .ret)))) kr (Nat.le_of_ble_eq_true kr) 0 (rs := [.tmp 2]) rfl [] .nil [(false,[.lit (.bool r)])] [] [] fun cx => ?_
 show Tr _ _ _ ⟨40,0,[sC 0 (cF 5 x0 Fent.row)],[]⟩ _
 unfold impl_FdbOkF at H
 refine tG 1 1 0 kr kr ?_
 refine tS ?_
 refine rU 1 kr ?_
 refine lL 53 3 184 5 6 none ⟨(.slot 5),[],0,false,5,(CV.frzEs (x0.map Fent.row))⟩ (x0).length _ kr kr kr kr kr (frz_len _ _) rfl ?_
 refine uD 1 225 0 kr kr ?_
 obtain ⟨o2,eo2,Ho2⟩ := bind_some H
 clear H
 refine Tr.mid (ι := Unit) (fun v => ⟨40,0,[sC 0 (cF 5 x0 Fent.row)],[]⟩) (fun v => impl_FdbOk_J1 n x0 = some r) ?_ ?_
 ·refine tB ?_
  refine Tr.loop (ι := Nat × (Int)) (fun v => ⟨40,0,[sI 7 v.2,sI 6 (x0.length : Int),sC 5 (cF 5 x0 Fent.row),sC 0 (cF 5 x0 Fent.row)],[]⟩) (fun v => impl_FdbOk_L2 n v.1 x0 v.2 = some o2) (fun v => v.1) (n,0) eo2 (St.sub_of [7,6,5,0] [] kr) ?_
  rintro ⟨mo2,y1⟩ H
  have H : impl_FdbOk_L2 n mo2 x0 y1 = some o2 := H
  obtain _ | mo2 := mo2
  ·cases (show (none : Option _) = some o2 from H)
  rw [impl_FdbOk_L2] at H
  refine tG 1 481 0 kr kr ?_
  refine tS ?_
  obtain ⟨h1,H⟩ | ⟨h1,H⟩ := bC H
  ·refine tF h1 kr ?_
   refine Tr.exit ?_
   refine And.intro (fun _ => ?_) (fun h => absurd rfl h)
   obtain rfl := si H
   have H := Ho2
   dsimp only at H
   exact jn () H (sB_ [0] [] kr)
  refine tT h1 kr ?_
  refine tK ?_
  refine tS ?_
  refine tB ?_
  refine rU 1 kr ?_
  obtain ⟨v3,ev3,H⟩ := bind_some H
  refine lI 53 0 5 7 10 none ⟨(.slot 5),[],0,false,5,(CV.frzEs (x0.map Fent.row))⟩ y1 (Fent.row v3) _ kr kr kr kr rfl (idx_isF ev3) rfl ?_
  refine uD 4 249 16 kr kr ?_
  obtain ⟨r4,er4,H⟩ := bind_some H
  refine tO ⟨40,0,[sI 3 y1,sA 4 4 5 0,sI 7 y1,sI 6 (x0.length : Int),sC 5 (cF 5 x0 Fent.row),sC 0 (cF 5 x0 Fent.row)],[(4,(Fent.row v3))]⟩ kr ?_
  cases h2 : (!r4)
  ·have H := bifF h2 H
   refine tO ⟨40,0,[sI 3 y1,sA 4 4 5 0,sI 7 y1,sI 6 (x0.length : Int),sC 5 (cF 5 x0 Fent.row),sC 0 (cF 5 x0 Fent.row)],[(4,(Fent.row v3))]⟩ kr ?_
   cases h3 : (decide (y1 > 0))
   ·have H := bifF h3 H
    refine Tr.draws mixed 24 kr ⟨40,0,[sB 35 false,sI 7 y1,sI 6 (x0.length : Int),sC 5 (cF 5 x0 Fent.row),sC 0 (cF 5 x0 Fent.row)],[]⟩ (fun cx => ?_) ?_
    ·refine aU [(0,[1])] 23 [⟨[1],184,4,12⟩] [0] rfl kr (fun cx => ?_)
     refine b1 1 kr kr ?_
     refine lV [.rd] [] (impl_fentOk n v3 r4 er4) kr kr kr kr (.inl rfl) ?_
     refine lF kr kr kr ?_
     refine aU [(2,[]),(3,[])] 20 [⟨[1],184,4,12⟩] [3,2,1,0] rfl kr (fun cx => ?_)
     refine aT ⟨40,0,[sB 15 (!r4),sB 14 (!r4),sB 13 r4,sV 12 (Fent.row v3),sI 3 y1,sA 4 4 5 0,sI 7 y1,sI 6 (x0.length : Int),sC 5 (cF 5 x0 Fent.row),sC 0 (cF 5 x0 Fent.row)],[(4,(Fent.row v3))]⟩ kr ?_
     rw [h2]
     refine aU [(4,[]),(5,[]),(6,[])] 17 [⟨[1],184,4,12⟩] [6,5,4,3,2,1,0] rfl kr (fun cx => ?_)
     refine aT ⟨40,0,[sB 18 (decide (y1 > 0)),sB 17 (decide (y1 > 0)),sI 16 y1,sB 15 false,sB 14 false,sB 13 r4,sV 12 (Fent.row v3),sI 3 y1,sA 4 4 5 0,sI 7 y1,sI 6 (x0.length : Int),sC 5 (cF 5 x0 Fent.row),sC 0 (cF 5 x0 Fent.row)],[(4,(Fent.row v3))]⟩ kr ?_
     rw [h3]
     refine aU [(7,[]),(8,[]),(9,[]),(10,[]),(11,[]),(12,[]),(13,[]),(14,[]),(15,[]),(16,[]),(17,[]),(18,[]),(19,[]),(20,[]),(21,[]),(22,[]),(23,[])] 0 [⟨[1],184,4,12⟩] [23,22,21,20,19,18,17,16,15,14,13,12,11,10,9,8,7,6,5,4,3,2,1,0] rfl kr (fun cx => ?_)
     exact AT.done [35,7,6,5,0] [] _ kr kr rfl
    refine tf kr ?_
    refine tK ?_
    refine tE 2 225 0 kr kr ?_
    exact jn (mo2,(w6 (y1 + 1))) H (sM mo2 [7,6,5,0] [] kr)
   have H := bifT h3 H
   obtain ⟨v5,ev5,H⟩ := bind_some H
   obtain ⟨v6,ev6,H⟩ := bind_some H
   obtain ⟨r7,er7,H⟩ := bind_some H
   refine Tr.draws mixed 24 kr ⟨40,0,[sB 35 (!r7),sI 7 y1,sI 6 (x0.length : Int),sC 5 (cF 5 x0 Fent.row),sC 0 (cF 5 x0 Fent.row)],[]⟩ (fun cx => ?_) ?_
   ·refine aU [(0,[1,20])] 23 [⟨[1,20],184,4,12⟩] [0] rfl kr (fun cx => ?_)
    refine b1 1 kr kr ?_
    refine lV [.rd] [] (impl_fentOk n v3 r4 er4) kr kr kr kr (.inl rfl) ?_
    refine lF kr kr kr ?_
    refine aU [(2,[]),(3,[])] 20 [⟨[1,20],184,4,12⟩] [3,2,1,0] rfl kr (fun cx => ?_)
    refine aT ⟨40,0,[sB 15 (!r4),sB 14 (!r4),sB 13 r4,sV 12 (Fent.row v3),sI 3 y1,sA 4 4 5 0,sI 7 y1,sI 6 (x0.length : Int),sC 5 (cF 5 x0 Fent.row),sC 0 (cF 5 x0 Fent.row)],[(4,(Fent.row v3))]⟩ kr ?_
    rw [h2]
    refine aU [(4,[]),(5,[]),(6,[])] 17 [⟨[1,20],184,4,12⟩] [6,5,4,3,2,1,0] rfl kr (fun cx => ?_)
    refine aT ⟨40,0,[sB 18 (decide (y1 > 0)),sB 17 (decide (y1 > 0)),sI 16 y1,sB 15 false,sB 14 false,sB 13 r4,sV 12 (Fent.row v3),sI 3 y1,sA 4 4 5 0,sI 7 y1,sI 6 (x0.length : Int),sC 5 (cF 5 x0 Fent.row),sC 0 (cF 5 x0 Fent.row)],[(4,(Fent.row v3))]⟩ kr ?_
    rw [h3]
    refine aU [(7,[20]),(8,[]),(9,[]),(10,[])] 13 [⟨[20],184,4,19⟩,⟨[1,20],184,4,12⟩] [10,9,8,7,6,5,4,3,2,1,0] rfl kr (fun cx => ?_)
    refine aI 11 53 0 20 22 23 (some (6,true)) ⟨(.slot 20),[],0,false,5,(CV.frzEs (x0.map Fent.row))⟩ (w6 (y1 - 1)) (Fent.row v5) _ kr kr kr kr kr kr rfl (idx_isF ev5) rfl (fun cx => ?_)
    refine aU [(12,[]),(13,[]),(14,[]),(15,[]),(16,[])] 7 [⟨[20],184,4,19⟩,⟨[1,20],184,4,12⟩] [16,15,14,13,12,11,10,9,8,7,6,5,4,3,2,1,0] rfl kr (fun cx => ?_)
    refine aI 17 53 0 26 28 29 (some (6,true)) ⟨(.slot 26),[],0,false,5,(CV.frzEs (x0.map Fent.row))⟩ (w6 (y1 - 1)) (Fent.row v6) _ kr kr kr kr kr kr rfl (idx_isF ev6) rfl (fun cx => ?_)
    refine aU [(18,[]),(19,[])] 4 [⟨[20],184,4,19⟩,⟨[1,20],184,4,12⟩] [19,18,17,16,15,14,13,12,11,10,9,8,7,6,5,4,3,2,1,0] rfl kr (fun cx => ?_)
    refine b1 20 kr kr ?_
    refine lV [.rd,.rd,.rd] [] (impl_behind n v3 v5.Tag v6.Mac r7 er7) kr kr kr kr (.inl rfl) ?_
    refine lF kr kr kr ?_
    refine aU [(21,[]),(22,[]),(23,[])] 0 [⟨[20],184,4,19⟩,⟨[1,20],184,4,12⟩] [23,22,21,20,19,18,17,16,15,14,13,12,11,10,9,8,7,6,5,4,3,2,1,0] rfl kr (fun cx => ?_)
    exact AT.done [35,7,6,5,0] [] _ kr kr rfl
   refine tO ⟨40,0,[sB 35 (!r7),sI 7 y1,sI 6 (x0.length : Int),sC 5 (cF 5 x0 Fent.row),sC 0 (cF 5 x0 Fent.row)],[]⟩ kr ?_
   cases h4 : (!r7)
   ·have H := bifF h4 H
    refine tf kr ?_
    refine tK ?_
    refine tE 2 225 0 kr kr ?_
    exact jn (mo2,(w6 (y1 + 1))) H (sM mo2 [7,6,5,0] [] kr)
   have H := bifT h4 H
   refine tt kr ?_
   refine tG 1 4 0 kr kr ?_
   refine te ?_
   obtain rfl := si H
   have H := Ho2
   dsimp only at H
   obtain rfl := si H
   exact fO [(false,[cB false])] kr rfl rfl
  have H := bifT h2 H
  refine Tr.draws mixed 24 kr ⟨40,0,[sB 35 true,sI 7 y1,sI 6 (x0.length : Int),sC 5 (cF 5 x0 Fent.row),sC 0 (cF 5 x0 Fent.row)],[]⟩ (fun cx => ?_) ?_
  ·refine aU [(0,[1])] 23 [⟨[1],184,4,12⟩] [0] rfl kr (fun cx => ?_)
   refine b1 1 kr kr ?_
   refine lV [.rd] [] (impl_fentOk n v3 r4 er4) kr kr kr kr (.inl rfl) ?_
   refine lF kr kr kr ?_
   refine aU [(2,[]),(3,[])] 20 [⟨[1],184,4,12⟩] [3,2,1,0] rfl kr (fun cx => ?_)
   refine aT ⟨40,0,[sB 15 (!r4),sB 14 (!r4),sB 13 r4,sV 12 (Fent.row v3),sI 3 y1,sA 4 4 5 0,sI 7 y1,sI 6 (x0.length : Int),sC 5 (cF 5 x0 Fent.row),sC 0 (cF 5 x0 Fent.row)],[(4,(Fent.row v3))]⟩ kr ?_
   rw [h2]
   refine aU [(4,[]),(5,[]),(6,[]),(7,[]),(8,[]),(9,[]),(10,[]),(11,[]),(12,[]),(13,[]),(14,[]),(15,[]),(16,[]),(17,[]),(18,[]),(19,[]),(20,[]),(21,[]),(22,[]),(23,[])] 0 [⟨[1],184,4,12⟩] [23,22,21,20,19,18,17,16,15,14,13,12,11,10,9,8,7,6,5,4,3,2,1,0] rfl kr (fun cx => ?_)
   exact AT.done [35,7,6,5,0] [] _ kr kr rfl
  refine tt kr ?_
  refine tG 1 4 0 kr kr ?_
  refine te ?_
  obtain rfl := si H
  have H := Ho2
  dsimp only at H
  obtain rfl := si H
  exact fO [(false,[cB false])] kr rfl rfl
 rintro _ H
 have H : (impl_FdbOk_J1 n x0) = some r := H
 unfold impl_FdbOk_J1 at H
 refine rU 1 kr ?_
 refine lL 53 3 184 37 38 none ⟨(.slot 37),[],0,false,5,(CV.frzEs (x0.map Fent.row))⟩ (x0).length _ kr kr kr kr kr (frz_len _ _) rfl ?_
 refine uD 2 4 0 kr kr ?_
 exact te (by obtain rfl := si H; exact fO [(false,[cB (decide ((x0.length : Int) ≤ 12))])] kr rfl rfl)
def impl_allPortsF (n : Nat) (x0 : Int) : Option (Int) :=
  (bif (decide ((0 : Int) ≤ x0)) then (some (IntKind.wrap .i64 ((IntKind.wrap .i64 (1 * 2 ^ min ((x0 : Int)).toNat (IntKind.bits .i64))) - 1))) else none)
theorem impl_allPorts (n : Nat) (x0 : Int) (r : Int) (H : impl_allPortsF n x0 = some r) : LCall Tryz.prog 229 [.val false [.lit (.int .i64 x0)]] [.val false [.lit (.int .i64 r)]] [] := by
 refine LCall.of_body tOk Tryz.func229 rfl (c := (.seq (Rg Tryz.f229 0) (.seq (Rg Tryz.f229 1) .ret))) kr (Nat.le_of_ble_eq_true kr) 0 (rs := [.tmp 2]) rfl [] .nil [(false,[.lit (.int .i64 r)])] [] [] fun cx => ?_
 show Tr _ _ _ ⟨6,0,[sI 0 x0],[]⟩ _
 unfold impl_allPortsF at H
 refine tG 1 1 0 kr kr ?_
 refine rU 1 kr ?_
 obtain ⟨hg1,H⟩ := guard_some H
 refine LAt.binC tOk (op := .shl) (t := 3) (ty := 3) (ty' := 3) (x := (.const (.int .i64 1))) (y := (.tmp 3)) (d := 4) (g := none) (.int .i64 1) (.int .i64 x0) (.int .i64 (w6 (1 * 2 ^ min ((x0 : Int)).toNat (IntKind.bits .i64)))) _ kr kr kr kr kr (φ := (0 : Int) ≤ x0) kr (of_decide_eq_true hg1) rfl ?_
 refine uD 2 4 0 kr kr ?_
 exact te (by obtain rfl := si H; exact fO [(false,[cI (w6 ((w6 (1 * 2 ^ min ((x0 : Int)).toNat (IntKind.bits .i64))) - 1))])] kr rfl rfl)
def impl_RowAt_J1 (n : Nat) : Option (Int) :=
  (some (-1))
def impl_RowAt_L2 (n : Nat) : Nat → Vtab → Int → Int → Option ((Unit) ⊕ (Int))
  | 0,_,_,_ => none
  | mo2 + 1,x0,x1,y1 => (bif (decide (y1 < (x0.Rows.length : Int))) then ((idx x0.Rows y1).bind fun v3 => (bif (v3.Id == x1) then (some (Sum.inr y1)) else (impl_RowAt_L2 n mo2 x0 x1 (IntKind.wrap .i64 (y1 + 1))))) else (some (Sum.inl ())))
def impl_RowAtF (n : Nat) (x0 : Vtab) (x1 : Int) : Option (Int) :=
  ((impl_RowAt_L2 n n x0 x1 0).bind fun o => match o with | .inl _ => (impl_RowAt_J1 n) | .inr r => some r)
noncomputable abbrev G162 (k : Nat) := Rg Tryz.f162 k
theorem impl_RowAt (n : Nat) (x0 : Vtab) (x1 : Int) (r : Int) (H : impl_RowAtF n x0 x1 = some r) : LCall Tryz.prog 162 [.val true (CV.frzRow (Vtab.row x0)),.val false [.lit (.int .i64 x1)]] [.val false [.lit (.int .i64 r)]] [] := by
 refine LCall.of_body tOk Tryz.func162 rfl (c := (.seq (G162 0) (.seq (.seq (G162 1) (.block 0 (.loop (.seq (G162 2) (.seq (.cond (.tmp 11) .skip (.exit 0)) (.seq (.block 1 (.seq (G162 3) (.seq (G162 4) (.cond (.tmp 18) (.seq (G162 5) .ret) .skip)))) (G162 6))))))) (.seq (G162 7) .ret)))) kr (Nat.le_of_ble_eq_true kr) 0 (rs := [.tmp 4]) rfl [] .nil [(false,[.lit (.int .i64 r)])] [] [] fun cx => ?_
 show Tr _ _ _ ⟨21,0,[sV 0 (CV.frzRow (Vtab.row x0)),sI 1 x1],[]⟩ _
 unfold impl_RowAtF at H
 refine tG 2 6 4 kr kr ?_
 refine tS ?_
 refine rU 2 kr ?_
 refine lL 54 3 190 8 9 none ⟨(.slot 8),[],0,false,3,(CV.frzEs (x0.Rows.map Vrow.row))⟩ (x0.Rows).length _ kr kr kr kr kr (frz_len _ _) rfl ?_
 refine uD 1 1794 0 kr kr ?_
 obtain ⟨o2,eo2,Ho2⟩ := bind_some H
 clear H
 refine Tr.mid (ι := Unit) (fun v => ⟨21,0,[],[]⟩) (fun v => impl_RowAt_J1 n = some r) ?_ ?_
 ·refine tB ?_
  refine Tr.loop (ι := Nat × (Int)) (fun v => ⟨21,0,[sI 10 v.2,sI 9 (x0.Rows.length : Int),sC 8 (cF 3 x0.Rows Vrow.row),sI 1 x1],[]⟩) (fun v => impl_RowAt_L2 n v.1 x0 x1 v.2 = some o2) (fun v => v.1) (n,0) eo2 (St.sub_of [10,9,8,1] [] kr) ?_
  rintro ⟨mo2,y1⟩ H
  have H : impl_RowAt_L2 n mo2 x0 x1 y1 = some o2 := H
  obtain _ | mo2 := mo2
  ·cases (show (none : Option _) = some o2 from H)
  rw [impl_RowAt_L2] at H
  refine tG 1 3842 0 kr kr ?_
  refine tS ?_
  obtain ⟨h1,H⟩ | ⟨h1,H⟩ := bC H
  ·refine tF h1 kr ?_
   refine Tr.exit ?_
   refine And.intro (fun _ => ?_) (fun h => absurd rfl h)
   obtain rfl := si H
   have H := Ho2
   dsimp only at H
   exact jn () H (sB_ [] [] kr)
  refine tT h1 kr ?_
  refine tK ?_
  refine tS ?_
  refine tB ?_
  refine rU 1 kr ?_
  obtain ⟨v3,ev3,H⟩ := bind_some H
  refine lI 54 0 8 10 13 none ⟨(.slot 8),[],0,false,3,(CV.frzEs (x0.Rows.map Vrow.row))⟩ y1 (Vrow.row v3) _ kr kr kr kr rfl (idx_isF ev3) rfl ?_
  refine uD 4 1890 64 kr kr ?_
  refine tG 4 263970 0 kr kr ?_
  obtain ⟨h2,H⟩ | ⟨h2,H⟩ := bC H
  ·refine tF h2 kr ?_
   refine tK ?_
   refine tE 2 1794 0 kr kr ?_
   exact jn (mo2,(w6 (y1 + 1))) H (sM mo2 [10,9,8,1] [] kr)
  refine tT h2 kr ?_
  refine tG 2 16 0 kr kr ?_
  refine te ?_
  obtain rfl := si H
  have H := Ho2
  dsimp only at H
  obtain rfl := si H
  exact fO [(false,[cI y1])] kr rfl rfl
 rintro _ H
 have H : (impl_RowAt_J1 n) = some r := H
 unfold impl_RowAt_J1 at H
 refine tG 1 16 0 kr kr ?_
 exact te (by obtain rfl := si H; exact fO [(false,[cI (-1)])] kr rfl rfl)
def impl_VtabOk_J2 (n : Nat) : Option (Bool) :=
  (some true)
def impl_VtabOk_L3 (n : Nat) : Nat → Vtab → Int → Option ((Unit) ⊕ (Bool))
  | 0,_,_ => none
  | mo4 + 1,x0,y3 => (bif (decide (y3 < (x0.Pvid.length : Int))) then ((idx x0.Pvid y3).bind fun v5 => ((impl_RowAtF n x0 v5).bind fun r6 => (bif (decide (r6 < 0)) then (some (Sum.inr false)) else (impl_VtabOk_L3 n mo4 x0 (IntKind.wrap .i64 (y3 + 1)))))) else (some (Sum.inl ())))
def impl_VtabOk_J1 (n : Nat) (x0 : Vtab) : Option (Bool) :=
  ((impl_VtabOk_L3 n n x0 0).bind fun o => match o with | .inl _ => (impl_VtabOk_J2 n) | .inr r => some r)
def impl_VtabOk_L4 (n : Nat) : Nat → Vtab → Int → Int → Option ((Unit) ⊕ (Bool))
  | 0,_,_,_ => none
  | mo7 + 1,x0,x1,y2 => (bif (decide (y2 < (x0.Rows.length : Int))) then ((idx x0.Rows y2).bind fun v8 => ((impl_inF n v8.Id 1 99).bind fun r9 => (bif (!r9) then (some (Sum.inr false)) else (bif (decide (y2 > 0)) then ((idx x0.Rows (IntKind.wrap .i64 (y2 - 1))).bind fun v12 => (bif (decide (v12.Id ≥ v8.Id)) then (some (Sum.inr false)) else ((impl_allPortsF n x1).bind fun r13 => ((impl_inF n v8.Members 0 r13).bind fun r14 => (bif (!r14) then (some (Sum.inr false)) else (bif ((IntKind.wrap .i64 (BitVec.ofInt (IntKind.bits .i64) v8.Bare &&& ~~~BitVec.ofInt (IntKind.bits .i64) v8.Members).toNat) != 0) then (some (Sum.inr false)) else (impl_VtabOk_L4 n mo7 x0 x1 (IntKind.wrap .i64 (y2 + 1))))))))) else ((impl_allPortsF n x1).bind fun r10 => ((impl_inF n v8.Members 0 r10).bind fun r11 => (bif (!r11) then (some (Sum.inr false)) else (bif ((IntKind.wrap .i64 (BitVec.ofInt (IntKind.bits .i64) v8.Bare &&& ~~~BitVec.ofInt (IntKind.bits .i64) v8.Members).toNat) != 0) then (some (Sum.inr false)) else (impl_VtabOk_L4 n mo7 x0 x1 (IntKind.wrap .i64 (y2 + 1))))))))))) else (some (Sum.inl ())))
def impl_VtabOkF (n : Nat) (x0 : Vtab) (x1 : Int) : Option (Bool) :=
  ((impl_inF n x1 1 6).bind fun r1 => (bif (!r1) then (some false) else (bif ((x0.Pvid.length : Int) != x1) then (some false) else (bif (decide ((x0.Rows.length : Int) > 6)) then (some false) else ((impl_VtabOk_L4 n n x0 x1 0).bind fun o => match o with | .inl _ => (impl_VtabOk_J1 n x0) | .inr r => some r)))))
noncomputable abbrev G160 (k : Nat) := Rg Tryz.f160 k
theorem impl_VtabOk (n : Nat) (x0 : Vtab) (x1 : Int) (r : Bool) (H : impl_VtabOkF n x0 x1 = some r) : LCall Tryz.prog 160 [.val true (CV.frzRow (Vtab.row x0)),.val false [.lit (.int .i64 x1)]] [.val false [.lit (.bool r)]] [] := by
 refine LCall.of_body tOk Tryz.func160 rfl (c := (.seq (G160 0) (.seq (.seq (G160 1) (.cond (.tmp 24) (.seq (G160 2) .ret) .skip)) (.seq (.seq (G160 3) (.block 0 (.loop (.seq (G160 4) (.seq (.cond (.tmp 29) .skip (.exit 0)) (.seq (.block 1 (.seq (G160 5) (.seq (Rd Tryz.f160 6) (.cond (.tmp 68) (.seq (G160 7) .ret) .skip)))) (G160 8))))))) (.seq (.seq (G160 9) (.block 2 (.loop (.seq (G160 10) (.seq (.cond (.tmp 74) .skip (.exit 2)) (.seq (.block 3 (.seq (G160 11) (.seq (G160 12) (.cond (.tmp 80) (.seq (G160 13) .ret) .skip)))) (G160 14))))))) (.seq (G160 15) .ret)))))) kr (Nat.le_of_ble_eq_true kr) 0 (rs := [.tmp 4]) rfl [] .nil [(false,[.lit (.bool r)])] [] [] fun cx => ?_
 show Tr _ _ _ ⟨82,0,[sV 0 (CV.frzRow (Vtab.row x0)),sI 1 x1],[]⟩ _
 unfold impl_VtabOkF at H
 refine tG 2 6 4 kr kr ?_
 refine tS ?_
 refine rU 1 kr ?_
 obtain ⟨r1,er1,H⟩ := bind_some H
 refine lV [.rd,.rd,.rd] [] (impl_in n x1 1 6 r1 er1) kr kr kr kr (.inl rfl) ?_
 refine lU 2 kr ?_
 refine lT ⟨82,0,[sB 12 (!r1),sB 11 (!r1),sB 10 r1,sI 9 x1,sA 2 2 2 0,sI 1 x1],[(2,(CV.frzRow (Vtab.row x0)))]⟩ kr ?_
 cases h1 : (!r1)
 ·have H := bifF h1 H
  refine lU 2 kr ?_
  refine lL 22 3 3 14 15 (some (3,false)) ⟨(.slot 14),[],0,false,1,(CV.frzEs (x0.Pvid.map intRow))⟩ (x0.Pvid).length _ kr kr kr kr kr (frz_len _ _) rfl ?_
  refine lU 4 kr ?_
  refine lT ⟨82,0,[sB 19 ((x0.Pvid.length : Int) != x1),sB 18 ((x0.Pvid.length : Int) != x1),sB 17 ((x0.Pvid.length : Int) != x1),sI 16 x1,sI 15 (x0.Pvid.length : Int),sC 14 (cF 1 x0.Pvid intRow),sA 13 2 2 1,sB 12 false,sB 11 false,sB 10 r1,sI 9 x1,sA 2 2 2 0,sI 1 x1],[(2,(CV.frzRow (Vtab.row x0)))]⟩ kr ?_
  cases h2 : ((x0.Pvid.length : Int) != x1)
  ·have H := bifF h2 H
   refine lU 2 kr ?_
   refine lL 54 3 190 21 22 (some (10,false)) ⟨(.slot 21),[],0,false,3,(CV.frzEs (x0.Rows.map Vrow.row))⟩ (x0.Rows).length _ kr kr kr kr kr (frz_len _ _) rfl ?_
   refine uD 2 16777222 4 kr kr ?_
   obtain ⟨h3,H⟩ | ⟨h3,H⟩ := bC H
   ·refine tF h3 kr ?_
    refine tK ?_
    refine tS ?_
    refine rU 2 kr ?_
    refine lL 54 3 190 26 27 none ⟨(.slot 26),[],0,false,3,(CV.frzEs (x0.Rows.map Vrow.row))⟩ (x0.Rows).length _ kr kr kr kr kr (frz_len _ _) rfl ?_
    refine uD 1 469762054 4 kr kr ?_
    obtain ⟨o7,eo7,Ho7⟩ := bind_some H
    clear H
    refine Tr.mid (ι := Unit) (fun v => ⟨82,0,[sA 2 2 2 0],[(2,(CV.frzRow (Vtab.row x0)))]⟩) (fun v => impl_VtabOk_J1 n x0 = some r) ?_ ?_
    ·refine tB ?_
     refine Tr.loop (ι := Nat × (Int)) (fun v => ⟨82,0,[sI 28 v.2,sI 27 (x0.Rows.length : Int),sC 26 (cF 3 x0.Rows Vrow.row),sA 2 2 2 0,sI 1 x1],[(2,(CV.frzRow (Vtab.row x0)))]⟩) (fun v => impl_VtabOk_L4 n v.1 x0 x1 v.2 = some o7) (fun v => v.1) (n,0) eo7 (St.sub_of [28,27,26,2,1] [2] kr) ?_
     rintro ⟨mo7,y2⟩ H
     have H : impl_VtabOk_L4 n mo7 x0 x1 y2 = some o7 := H
     obtain _ | mo7 := mo7
     ·cases (show (none : Option _) = some o7 from H)
     rw [impl_VtabOk_L4] at H
     refine tG 1 1006632966 4 kr kr ?_
     refine tS ?_
     obtain ⟨h6,H⟩ | ⟨h6,H⟩ := bC H
     ·refine tF h6 kr ?_
      refine Tr.exit ?_
      refine And.intro (fun _ => ?_) (fun h => absurd rfl h)
      obtain rfl := si H
      have H := Ho7
      dsimp only at H
      exact jn () H (sB_ [2] [2] kr)
     refine tT h6 kr ?_
     refine tK ?_
     refine tS ?_
     refine tB ?_
     refine rU 1 kr ?_
     obtain ⟨v8,ev8,H⟩ := bind_some H
     refine lI 54 0 26 28 31 none ⟨(.slot 26),[],0,false,3,(CV.frzEs (x0.Rows.map Vrow.row))⟩ y2 (Vrow.row v8) _ kr kr kr kr rfl (idx_isF ev8) rfl ?_
     refine uD 4 469762150 68 kr kr ?_
     obtain ⟨r9,er9,H⟩ := bind_some H
     refine tO ⟨82,0,[sI 5 y2,sA 6 6 3 0,sI 28 y2,sI 27 (x0.Rows.length : Int),sC 26 (cF 3 x0.Rows Vrow.row),sA 2 2 2 0,sI 1 x1],[(6,(Vrow.row v8)),(2,(CV.frzRow (Vtab.row x0)))]⟩ kr ?_
     cases h7 : (!r9)
     ·have H := bifF h7 H
      refine tO ⟨82,0,[sI 5 y2,sA 6 6 3 0,sI 28 y2,sI 27 (x0.Rows.length : Int),sC 26 (cF 3 x0.Rows Vrow.row),sA 2 2 2 0,sI 1 x1],[(6,(Vrow.row v8)),(2,(CV.frzRow (Vtab.row x0)))]⟩ kr ?_
      cases h8 : (decide (y2 > 0))
      ·have H := bifF h8 H
       obtain ⟨r10,er10,H⟩ := bind_some H
       obtain ⟨r11,er11,H⟩ := bind_some H
       refine tO ⟨82,0,[sI 5 y2,sA 6 6 3 0,sI 28 y2,sI 27 (x0.Rows.length : Int),sC 26 (cF 3 x0.Rows Vrow.row),sA 2 2 2 0,sI 1 x1],[(6,(Vrow.row v8)),(2,(CV.frzRow (Vtab.row x0)))]⟩ kr ?_
       cases h9 : (!r11)
       ·have H := bifF h9 H
        refine Tr.draws mixed 36 kr ⟨82,0,[sB 68 ((w6 (BitVec.ofInt (IntKind.bits .i64) v8.Bare &&& ~~~BitVec.ofInt (IntKind.bits .i64) v8.Members).toNat) != 0),sI 28 y2,sI 27 (x0.Rows.length : Int),sC 26 (cF 3 x0.Rows Vrow.row),sA 2 2 2 0,sI 1 x1],[(2,(CV.frzRow (Vtab.row x0)))]⟩ (fun cx => ?_) ?_
        ·refine aU [(0,[]),(1,[2,24,25])] 34 [⟨[2,24,25],3,33,34⟩] [1,0] rfl kr (fun cx => ?_)
         refine b1 2 kr kr ?_
         refine lV [.rd,.rd,.rd] [] (impl_in n v8.Id 1 99 r9 er9) kr kr kr kr (.inl rfl) ?_
         refine lF kr kr kr ?_
         refine aU [(3,[]),(4,[])] 31 [⟨[2,24,25],3,33,34⟩] [4,3,2,1,0] rfl kr (fun cx => ?_)
         refine aT ⟨82,0,[sB 37 (!r9),sB 36 (!r9),sB 35 r9,sI 34 v8.Id,sA 33 6 3 0,sI 5 y2,sA 6 6 3 0,sI 28 y2,sI 27 (x0.Rows.length : Int),sC 26 (cF 3 x0.Rows Vrow.row),sA 2 2 2 0,sI 1 x1],[(6,(Vrow.row v8)),(2,(CV.frzRow (Vtab.row x0)))]⟩ kr ?_
         rw [h7]
         refine aU [(5,[]),(6,[]),(7,[])] 28 [⟨[2,24,25],3,33,34⟩] [7,6,5,4,3,2,1,0] rfl kr (fun cx => ?_)
         refine aT ⟨82,0,[sB 40 (decide (y2 > 0)),sB 39 (decide (y2 > 0)),sI 38 y2,sB 37 false,sB 36 false,sB 35 r9,sI 34 v8.Id,sA 33 6 3 0,sI 5 y2,sA 6 6 3 0,sI 28 y2,sI 27 (x0.Rows.length : Int),sC 26 (cF 3 x0.Rows Vrow.row),sA 2 2 2 0,sI 1 x1],[(6,(Vrow.row v8)),(2,(CV.frzRow (Vtab.row x0)))]⟩ kr ?_
         rw [h8]
         refine aU [(8,[]),(9,[]),(10,[]),(11,[]),(12,[]),(13,[]),(14,[]),(15,[]),(16,[]),(17,[]),(18,[]),(19,[]),(20,[]),(21,[]),(22,[25]),(23,[])] 12 [⟨[25],3,54,55⟩,⟨[2,24,25],3,33,34⟩] [23,22,21,20,19,18,17,16,15,14,13,12,11,10,9,8,7,6,5,4,3,2,1,0] rfl kr (fun cx => ?_)
         refine b1 24 kr kr ?_
         refine lV [.rd] [] (impl_allPorts n x1 r10 er10) kr kr kr kr (.inl rfl) ?_
         refine lF kr kr kr ?_
         refine b1 25 kr kr ?_
         refine lV [.rd,.rd,.rd] [] (impl_in n v8.Members 0 r10 r11 er11) kr kr kr kr (.inl rfl) ?_
         refine lF kr kr kr ?_
         refine aU [(26,[]),(27,[]),(28,[])] 7 [⟨[25],3,54,55⟩,⟨[2,24,25],3,33,34⟩] [28,27,26,25,24,23,22,21,20,19,18,17,16,15,14,13,12,11,10,9,8,7,6,5,4,3,2,1,0] rfl kr (fun cx => ?_)
         refine aT ⟨82,0,[sB 61 (!r11),sB 60 (!r11),sB 59 (!r11),sB 58 r11,sI 57 r10,sI 56 x1,sI 55 v8.Members,sA 54 6 3 1,sB 53 false,sB 52 false,sB 51 false,(50,.tup []),(49,.tup []),(48,.tup []),(47,.tup []),(46,.tup []),(45,.tup []),(44,.tup []),(43,.tup []),(42,.tup []),(41,.tup []),sB 40 false,sB 39 false,sI 38 y2,sB 37 false,sB 36 false,sB 35 r9,sI 34 v8.Id,sA 33 6 3 0,sI 5 y2,sA 6 6 3 0,sI 28 y2,sI 27 (x0.Rows.length : Int),sC 26 (cF 3 x0.Rows Vrow.row),sA 2 2 2 0,sI 1 x1],[(6,(Vrow.row v8)),(2,(CV.frzRow (Vtab.row x0)))]⟩ kr ?_
         rw [h9]
         refine aU [(29,[]),(30,[]),(31,[]),(32,[]),(33,[]),(34,[]),(35,[])] 0 [⟨[],3,64,65⟩,⟨[],3,62,63⟩,⟨[25],3,54,55⟩,⟨[2,24,25],3,33,34⟩] [35,34,33,32,31,30,29,28,27,26,25,24,23,22,21,20,19,18,17,16,15,14,13,12,11,10,9,8,7,6,5,4,3,2,1,0] rfl kr (fun cx => ?_)
         exact AT.done [68,28,27,26,2,1] [2] _ kr kr rfl
        refine tO ⟨82,0,[sB 68 ((w6 (BitVec.ofInt (IntKind.bits .i64) v8.Bare &&& ~~~BitVec.ofInt (IntKind.bits .i64) v8.Members).toNat) != 0),sI 28 y2,sI 27 (x0.Rows.length : Int),sC 26 (cF 3 x0.Rows Vrow.row),sA 2 2 2 0,sI 1 x1],[(2,(CV.frzRow (Vtab.row x0)))]⟩ kr ?_
        cases h10 : ((IntKind.wrap .i64 (BitVec.ofInt (IntKind.bits .i64) v8.Bare &&& ~~~BitVec.ofInt (IntKind.bits .i64) v8.Members).toNat) != 0)
        ·have H := bifF h10 H
         refine tf kr ?_
         refine tK ?_
         refine tE 2 469762054 4 kr kr ?_
         exact jn (mo7,(w6 (y2 + 1))) H (sM mo7 [28,27,26,2,1] [2] kr)
        have H := bifT h10 H
        refine tt kr ?_
        refine tG 1 16 0 kr kr ?_
        refine te ?_
        obtain rfl := si H
        have H := Ho7
        dsimp only at H
        obtain rfl := si H
        exact fO [(false,[cB false])] kr rfl rfl
       have H := bifT h9 H
       refine Tr.draws mixed 36 kr ⟨82,0,[sB 68 true,sI 28 y2,sI 27 (x0.Rows.length : Int),sC 26 (cF 3 x0.Rows Vrow.row),sA 2 2 2 0,sI 1 x1],[(2,(CV.frzRow (Vtab.row x0)))]⟩ (fun cx => ?_) ?_
       ·refine aU [(0,[]),(1,[2,24,25])] 34 [⟨[2,24,25],3,33,34⟩] [1,0] rfl kr (fun cx => ?_)
        refine b1 2 kr kr ?_
        refine lV [.rd,.rd,.rd] [] (impl_in n v8.Id 1 99 r9 er9) kr kr kr kr (.inl rfl) ?_
        refine lF kr kr kr ?_
        refine aU [(3,[]),(4,[])] 31 [⟨[2,24,25],3,33,34⟩] [4,3,2,1,0] rfl kr (fun cx => ?_)
        refine aT ⟨82,0,[sB 37 (!r9),sB 36 (!r9),sB 35 r9,sI 34 v8.Id,sA 33 6 3 0,sI 5 y2,sA 6 6 3 0,sI 28 y2,sI 27 (x0.Rows.length : Int),sC 26 (cF 3 x0.Rows Vrow.row),sA 2 2 2 0,sI 1 x1],[(6,(Vrow.row v8)),(2,(CV.frzRow (Vtab.row x0)))]⟩ kr ?_
        rw [h7]
        refine aU [(5,[]),(6,[]),(7,[])] 28 [⟨[2,24,25],3,33,34⟩] [7,6,5,4,3,2,1,0] rfl kr (fun cx => ?_)
        refine aT ⟨82,0,[sB 40 (decide (y2 > 0)),sB 39 (decide (y2 > 0)),sI 38 y2,sB 37 false,sB 36 false,sB 35 r9,sI 34 v8.Id,sA 33 6 3 0,sI 5 y2,sA 6 6 3 0,sI 28 y2,sI 27 (x0.Rows.length : Int),sC 26 (cF 3 x0.Rows Vrow.row),sA 2 2 2 0,sI 1 x1],[(6,(Vrow.row v8)),(2,(CV.frzRow (Vtab.row x0)))]⟩ kr ?_
        rw [h8]
        refine aU [(8,[]),(9,[]),(10,[]),(11,[]),(12,[]),(13,[]),(14,[]),(15,[]),(16,[]),(17,[]),(18,[]),(19,[]),(20,[]),(21,[]),(22,[25]),(23,[])] 12 [⟨[25],3,54,55⟩,⟨[2,24,25],3,33,34⟩] [23,22,21,20,19,18,17,16,15,14,13,12,11,10,9,8,7,6,5,4,3,2,1,0] rfl kr (fun cx => ?_)
        refine b1 24 kr kr ?_
        refine lV [.rd] [] (impl_allPorts n x1 r10 er10) kr kr kr kr (.inl rfl) ?_
        refine lF kr kr kr ?_
        refine b1 25 kr kr ?_
        refine lV [.rd,.rd,.rd] [] (impl_in n v8.Members 0 r10 r11 er11) kr kr kr kr (.inl rfl) ?_
        refine lF kr kr kr ?_
        refine aU [(26,[]),(27,[]),(28,[])] 7 [⟨[25],3,54,55⟩,⟨[2,24,25],3,33,34⟩] [28,27,26,25,24,23,22,21,20,19,18,17,16,15,14,13,12,11,10,9,8,7,6,5,4,3,2,1,0] rfl kr (fun cx => ?_)
        refine aT ⟨82,0,[sB 61 (!r11),sB 60 (!r11),sB 59 (!r11),sB 58 r11,sI 57 r10,sI 56 x1,sI 55 v8.Members,sA 54 6 3 1,sB 53 false,sB 52 false,sB 51 false,(50,.tup []),(49,.tup []),(48,.tup []),(47,.tup []),(46,.tup []),(45,.tup []),(44,.tup []),(43,.tup []),(42,.tup []),(41,.tup []),sB 40 false,sB 39 false,sI 38 y2,sB 37 false,sB 36 false,sB 35 r9,sI 34 v8.Id,sA 33 6 3 0,sI 5 y2,sA 6 6 3 0,sI 28 y2,sI 27 (x0.Rows.length : Int),sC 26 (cF 3 x0.Rows Vrow.row),sA 2 2 2 0,sI 1 x1],[(6,(Vrow.row v8)),(2,(CV.frzRow (Vtab.row x0)))]⟩ kr ?_
        rw [h9]
        refine aU [(29,[]),(30,[]),(31,[]),(32,[]),(33,[]),(34,[]),(35,[])] 0 [⟨[25],3,54,55⟩,⟨[2,24,25],3,33,34⟩] [35,34,33,32,31,30,29,28,27,26,25,24,23,22,21,20,19,18,17,16,15,14,13,12,11,10,9,8,7,6,5,4,3,2,1,0] rfl kr (fun cx => ?_)
        exact AT.done [68,28,27,26,2,1] [2] _ kr kr rfl
       refine tt kr ?_
       refine tG 1 16 0 kr kr ?_
       refine te ?_
       obtain rfl := si H
       have H := Ho7
       dsimp only at H
       obtain rfl := si H
       exact fO [(false,[cB false])] kr rfl rfl
      have H := bifT h8 H
      obtain ⟨v12,ev12,H⟩ := bind_some H
      refine tO ⟨82,0,[sI 5 y2,sA 6 6 3 0,sI 28 y2,sI 27 (x0.Rows.length : Int),sC 26 (cF 3 x0.Rows Vrow.row),sA 2 2 2 0,sI 1 x1],[(6,(Vrow.row v8)),(2,(CV.frzRow (Vtab.row x0)))]⟩ kr ?_
      cases h11 : (decide (v12.Id ≥ v8.Id))
      ·have H := bifF h11 H
       obtain ⟨r13,er13,H⟩ := bind_some H
       obtain ⟨r14,er14,H⟩ := bind_some H
       refine tO ⟨82,0,[sI 5 y2,sA 6 6 3 0,sI 28 y2,sI 27 (x0.Rows.length : Int),sC 26 (cF 3 x0.Rows Vrow.row),sA 2 2 2 0,sI 1 x1],[(6,(Vrow.row v8)),(2,(CV.frzRow (Vtab.row x0)))]⟩ kr ?_
       cases h12 : (!r14)
       ·have H := bifF h12 H
        refine Tr.draws mixed 36 kr ⟨82,0,[sB 68 ((w6 (BitVec.ofInt (IntKind.bits .i64) v8.Bare &&& ~~~BitVec.ofInt (IntKind.bits .i64) v8.Members).toNat) != 0),sI 28 y2,sI 27 (x0.Rows.length : Int),sC 26 (cF 3 x0.Rows Vrow.row),sA 2 2 2 0,sI 1 x1],[(2,(CV.frzRow (Vtab.row x0)))]⟩ (fun cx => ?_) ?_
        ·refine aU [(0,[]),(1,[2,24,25])] 34 [⟨[2,24,25],3,33,34⟩] [1,0] rfl kr (fun cx => ?_)
         refine b1 2 kr kr ?_
         refine lV [.rd,.rd,.rd] [] (impl_in n v8.Id 1 99 r9 er9) kr kr kr kr (.inl rfl) ?_
         refine lF kr kr kr ?_
         refine aU [(3,[]),(4,[])] 31 [⟨[2,24,25],3,33,34⟩] [4,3,2,1,0] rfl kr (fun cx => ?_)
         refine aT ⟨82,0,[sB 37 (!r9),sB 36 (!r9),sB 35 r9,sI 34 v8.Id,sA 33 6 3 0,sI 5 y2,sA 6 6 3 0,sI 28 y2,sI 27 (x0.Rows.length : Int),sC 26 (cF 3 x0.Rows Vrow.row),sA 2 2 2 0,sI 1 x1],[(6,(Vrow.row v8)),(2,(CV.frzRow (Vtab.row x0)))]⟩ kr ?_
         rw [h7]
         refine aU [(5,[]),(6,[]),(7,[])] 28 [⟨[2,24,25],3,33,34⟩] [7,6,5,4,3,2,1,0] rfl kr (fun cx => ?_)
         refine aT ⟨82,0,[sB 40 (decide (y2 > 0)),sB 39 (decide (y2 > 0)),sI 38 y2,sB 37 false,sB 36 false,sB 35 r9,sI 34 v8.Id,sA 33 6 3 0,sI 5 y2,sA 6 6 3 0,sI 28 y2,sI 27 (x0.Rows.length : Int),sC 26 (cF 3 x0.Rows Vrow.row),sA 2 2 2 0,sI 1 x1],[(6,(Vrow.row v8)),(2,(CV.frzRow (Vtab.row x0)))]⟩ kr ?_
         rw [h8]
         refine aU [(8,[]),(9,[24,25]),(10,[]),(11,[])] 24 [⟨[24,25],54,41,42⟩,⟨[2,24,25],3,33,34⟩] [11,10,9,8,7,6,5,4,3,2,1,0] rfl kr (fun cx => ?_)
         refine aI 12 54 0 42 44 45 (some (7,true)) ⟨(.box 2),[(0,0)],0,false,3,(CV.frzEs (x0.Rows.map Vrow.row))⟩ (w6 (y2 - 1)) (Vrow.row v12) _ kr kr kr kr kr kr rfl (idx_isF ev12) rfl (fun cx => ?_)
         refine aU [(13,[]),(14,[]),(15,[]),(16,[24,25]),(17,[]),(18,[]),(19,[]),(20,[])] 15 [⟨[24,25],3,48,49⟩,⟨[24,25],54,41,42⟩,⟨[2,24,25],3,33,34⟩] [20,19,18,17,16,15,14,13,12,11,10,9,8,7,6,5,4,3,2,1,0] rfl kr (fun cx => ?_)
         refine aT ⟨82,0,[sB 53 (decide (v12.Id ≥ v8.Id)),sB 52 (decide (v12.Id ≥ v8.Id)),sB 51 (decide (v12.Id ≥ v8.Id)),sB 50 (decide (v12.Id ≥ v8.Id)),sI 49 v8.Id,sA 48 6 3 0,sI 47 v12.Id,(46,.fad ((Vrow.row v12))),(45,.fad ((Vrow.row v12))),sI 44 (w6 (y2 - 1)),sI 43 y2,sR 42 2 2 0 1 false,sA 41 2 2 0,sB 40 true,sB 39 true,sI 38 y2,sB 37 false,sB 36 false,sB 35 r9,sI 34 v8.Id,sA 33 6 3 0,sI 5 y2,sA 6 6 3 0,sI 28 y2,sI 27 (x0.Rows.length : Int),sC 26 (cF 3 x0.Rows Vrow.row),sA 2 2 2 0,sI 1 x1],[(6,(Vrow.row v8)),(2,(CV.frzRow (Vtab.row x0)))]⟩ kr ?_
         rw [h11]
         refine aU [(21,[]),(22,[25]),(23,[])] 12 [⟨[25],3,54,55⟩,⟨[24,25],3,48,49⟩,⟨[24,25],54,41,42⟩,⟨[2,24,25],3,33,34⟩] [23,22,21,20,19,18,17,16,15,14,13,12,11,10,9,8,7,6,5,4,3,2,1,0] rfl kr (fun cx => ?_)
         refine b1 24 kr kr ?_
         refine lV [.rd] [] (impl_allPorts n x1 r13 er13) kr kr kr kr (.inl rfl) ?_
         refine lF kr kr kr ?_
         refine b1 25 kr kr ?_
         refine lV [.rd,.rd,.rd] [] (impl_in n v8.Members 0 r13 r14 er14) kr kr kr kr (.inl rfl) ?_
         refine lF kr kr kr ?_
         refine aU [(26,[]),(27,[]),(28,[])] 7 [⟨[25],3,54,55⟩,⟨[24,25],3,48,49⟩,⟨[24,25],54,41,42⟩,⟨[2,24,25],3,33,34⟩] [28,27,26,25,24,23,22,21,20,19,18,17,16,15,14,13,12,11,10,9,8,7,6,5,4,3,2,1,0] rfl kr (fun cx => ?_)
         refine aT ⟨82,0,[sB 61 (!r14),sB 60 (!r14),sB 59 (!r14),sB 58 r14,sI 57 r13,sI 56 x1,sI 55 v8.Members,sA 54 6 3 1,sB 53 false,sB 52 false,sB 51 false,sB 50 false,sI 49 v8.Id,sA 48 6 3 0,sI 47 v12.Id,(46,.fad ((Vrow.row v12))),(45,.fad ((Vrow.row v12))),sI 44 (w6 (y2 - 1)),sI 43 y2,sR 42 2 2 0 1 false,sA 41 2 2 0,sB 40 true,sB 39 true,sI 38 y2,sB 37 false,sB 36 false,sB 35 r9,sI 34 v8.Id,sA 33 6 3 0,sI 5 y2,sA 6 6 3 0,sI 28 y2,sI 27 (x0.Rows.length : Int),sC 26 (cF 3 x0.Rows Vrow.row),sA 2 2 2 0,sI 1 x1],[(6,(Vrow.row v8)),(2,(CV.frzRow (Vtab.row x0)))]⟩ kr ?_
         rw [h12]
         refine aU [(29,[]),(30,[]),(31,[]),(32,[]),(33,[]),(34,[]),(35,[])] 0 [⟨[],3,64,65⟩,⟨[],3,62,63⟩,⟨[25],3,54,55⟩,⟨[24,25],3,48,49⟩,⟨[24,25],54,41,42⟩,⟨[2,24,25],3,33,34⟩] [35,34,33,32,31,30,29,28,27,26,25,24,23,22,21,20,19,18,17,16,15,14,13,12,11,10,9,8,7,6,5,4,3,2,1,0] rfl kr (fun cx => ?_)
         exact AT.done [68,28,27,26,2,1] [2] _ kr kr rfl
        refine tO ⟨82,0,[sB 68 ((w6 (BitVec.ofInt (IntKind.bits .i64) v8.Bare &&& ~~~BitVec.ofInt (IntKind.bits .i64) v8.Members).toNat) != 0),sI 28 y2,sI 27 (x0.Rows.length : Int),sC 26 (cF 3 x0.Rows Vrow.row),sA 2 2 2 0,sI 1 x1],[(2,(CV.frzRow (Vtab.row x0)))]⟩ kr ?_
        cases h13 : ((IntKind.wrap .i64 (BitVec.ofInt (IntKind.bits .i64) v8.Bare &&& ~~~BitVec.ofInt (IntKind.bits .i64) v8.Members).toNat) != 0)
        ·have H := bifF h13 H
         refine tf kr ?_
         refine tK ?_
         refine tE 2 469762054 4 kr kr ?_
         exact jn (mo7,(w6 (y2 + 1))) H (sM mo7 [28,27,26,2,1] [2] kr)
        have H := bifT h13 H
        refine tt kr ?_
        refine tG 1 16 0 kr kr ?_
        refine te ?_
        obtain rfl := si H
        have H := Ho7
        dsimp only at H
        obtain rfl := si H
        exact fO [(false,[cB false])] kr rfl rfl
       have H := bifT h12 H
       refine Tr.draws mixed 36 kr ⟨82,0,[sB 68 true,sI 28 y2,sI 27 (x0.Rows.length : Int),sC 26 (cF 3 x0.Rows Vrow.row),sA 2 2 2 0,sI 1 x1],[(2,(CV.frzRow (Vtab.row x0)))]⟩ (fun cx => ?_) ?_
       ·refine aU [(0,[]),(1,[2,24,25])] 34 [⟨[2,24,25],3,33,34⟩] [1,0] rfl kr (fun cx => ?_)
        refine b1 2 kr kr ?_
        refine lV [.rd,.rd,.rd] [] (impl_in n v8.Id 1 99 r9 er9) kr kr kr kr (.inl rfl) ?_
        refine lF kr kr kr ?_
        refine aU [(3,[]),(4,[])] 31 [⟨[2,24,25],3,33,34⟩] [4,3,2,1,0] rfl kr (fun cx => ?_)
        refine aT ⟨82,0,[sB 37 (!r9),sB 36 (!r9),sB 35 r9,sI 34 v8.Id,sA 33 6 3 0,sI 5 y2,sA 6 6 3 0,sI 28 y2,sI 27 (x0.Rows.length : Int),sC 26 (cF 3 x0.Rows Vrow.row),sA 2 2 2 0,sI 1 x1],[(6,(Vrow.row v8)),(2,(CV.frzRow (Vtab.row x0)))]⟩ kr ?_
        rw [h7]
        refine aU [(5,[]),(6,[]),(7,[])] 28 [⟨[2,24,25],3,33,34⟩] [7,6,5,4,3,2,1,0] rfl kr (fun cx => ?_)
        refine aT ⟨82,0,[sB 40 (decide (y2 > 0)),sB 39 (decide (y2 > 0)),sI 38 y2,sB 37 false,sB 36 false,sB 35 r9,sI 34 v8.Id,sA 33 6 3 0,sI 5 y2,sA 6 6 3 0,sI 28 y2,sI 27 (x0.Rows.length : Int),sC 26 (cF 3 x0.Rows Vrow.row),sA 2 2 2 0,sI 1 x1],[(6,(Vrow.row v8)),(2,(CV.frzRow (Vtab.row x0)))]⟩ kr ?_
        rw [h8]
        refine aU [(8,[]),(9,[24,25]),(10,[]),(11,[])] 24 [⟨[24,25],54,41,42⟩,⟨[2,24,25],3,33,34⟩] [11,10,9,8,7,6,5,4,3,2,1,0] rfl kr (fun cx => ?_)
        refine aI 12 54 0 42 44 45 (some (7,true)) ⟨(.box 2),[(0,0)],0,false,3,(CV.frzEs (x0.Rows.map Vrow.row))⟩ (w6 (y2 - 1)) (Vrow.row v12) _ kr kr kr kr kr kr rfl (idx_isF ev12) rfl (fun cx => ?_)
        refine aU [(13,[]),(14,[]),(15,[]),(16,[24,25]),(17,[]),(18,[]),(19,[]),(20,[])] 15 [⟨[24,25],3,48,49⟩,⟨[24,25],54,41,42⟩,⟨[2,24,25],3,33,34⟩] [20,19,18,17,16,15,14,13,12,11,10,9,8,7,6,5,4,3,2,1,0] rfl kr (fun cx => ?_)
        refine aT ⟨82,0,[sB 53 (decide (v12.Id ≥ v8.Id)),sB 52 (decide (v12.Id ≥ v8.Id)),sB 51 (decide (v12.Id ≥ v8.Id)),sB 50 (decide (v12.Id ≥ v8.Id)),sI 49 v8.Id,sA 48 6 3 0,sI 47 v12.Id,(46,.fad ((Vrow.row v12))),(45,.fad ((Vrow.row v12))),sI 44 (w6 (y2 - 1)),sI 43 y2,sR 42 2 2 0 1 false,sA 41 2 2 0,sB 40 true,sB 39 true,sI 38 y2,sB 37 false,sB 36 false,sB 35 r9,sI 34 v8.Id,sA 33 6 3 0,sI 5 y2,sA 6 6 3 0,sI 28 y2,sI 27 (x0.Rows.length : Int),sC 26 (cF 3 x0.Rows Vrow.row),sA 2 2 2 0,sI 1 x1],[(6,(Vrow.row v8)),(2,(CV.frzRow (Vtab.row x0)))]⟩ kr ?_
        rw [h11]
        refine aU [(21,[]),(22,[25]),(23,[])] 12 [⟨[25],3,54,55⟩,⟨[24,25],3,48,49⟩,⟨[24,25],54,41,42⟩,⟨[2,24,25],3,33,34⟩] [23,22,21,20,19,18,17,16,15,14,13,12,11,10,9,8,7,6,5,4,3,2,1,0] rfl kr (fun cx => ?_)
        refine b1 24 kr kr ?_
        refine lV [.rd] [] (impl_allPorts n x1 r13 er13) kr kr kr kr (.inl rfl) ?_
        refine lF kr kr kr ?_
        refine b1 25 kr kr ?_
        refine lV [.rd,.rd,.rd] [] (impl_in n v8.Members 0 r13 r14 er14) kr kr kr kr (.inl rfl) ?_
        refine lF kr kr kr ?_
        refine aU [(26,[]),(27,[]),(28,[])] 7 [⟨[25],3,54,55⟩,⟨[24,25],3,48,49⟩,⟨[24,25],54,41,42⟩,⟨[2,24,25],3,33,34⟩] [28,27,26,25,24,23,22,21,20,19,18,17,16,15,14,13,12,11,10,9,8,7,6,5,4,3,2,1,0] rfl kr (fun cx => ?_)
        refine aT ⟨82,0,[sB 61 (!r14),sB 60 (!r14),sB 59 (!r14),sB 58 r14,sI 57 r13,sI 56 x1,sI 55 v8.Members,sA 54 6 3 1,sB 53 false,sB 52 false,sB 51 false,sB 50 false,sI 49 v8.Id,sA 48 6 3 0,sI 47 v12.Id,(46,.fad ((Vrow.row v12))),(45,.fad ((Vrow.row v12))),sI 44 (w6 (y2 - 1)),sI 43 y2,sR 42 2 2 0 1 false,sA 41 2 2 0,sB 40 true,sB 39 true,sI 38 y2,sB 37 false,sB 36 false,sB 35 r9,sI 34 v8.Id,sA 33 6 3 0,sI 5 y2,sA 6 6 3 0,sI 28 y2,sI 27 (x0.Rows.length : Int),sC 26 (cF 3 x0.Rows Vrow.row),sA 2 2 2 0,sI 1 x1],[(6,(Vrow.row v8)),(2,(CV.frzRow (Vtab.row x0)))]⟩ kr ?_
        rw [h12]
        refine aU [(29,[]),(30,[]),(31,[]),(32,[]),(33,[]),(34,[]),(35,[])] 0 [⟨[25],3,54,55⟩,⟨[24,25],3,48,49⟩,⟨[24,25],54,41,42⟩,⟨[2,24,25],3,33,34⟩] [35,34,33,32,31,30,29,28,27,26,25,24,23,22,21,20,19,18,17,16,15,14,13,12,11,10,9,8,7,6,5,4,3,2,1,0] rfl kr (fun cx => ?_)
        exact AT.done [68,28,27,26,2,1] [2] _ kr kr rfl
       refine tt kr ?_
       refine tG 1 16 0 kr kr ?_
       refine te ?_
       obtain rfl := si H
       have H := Ho7
       dsimp only at H
       obtain rfl := si H
       exact fO [(false,[cB false])] kr rfl rfl
      have H := bifT h11 H
      refine Tr.draws mixed 36 kr ⟨82,0,[sB 68 true,sI 28 y2,sI 27 (x0.Rows.length : Int),sC 26 (cF 3 x0.Rows Vrow.row),sA 2 2 2 0,sI 1 x1],[(2,(CV.frzRow (Vtab.row x0)))]⟩ (fun cx => ?_) ?_
      ·refine aU [(0,[]),(1,[2])] 34 [⟨[2],3,33,34⟩] [1,0] rfl kr (fun cx => ?_)
       refine b1 2 kr kr ?_
       refine lV [.rd,.rd,.rd] [] (impl_in n v8.Id 1 99 r9 er9) kr kr kr kr (.inl rfl) ?_
       refine lF kr kr kr ?_
       refine aU [(3,[]),(4,[])] 31 [⟨[2],3,33,34⟩] [4,3,2,1,0] rfl kr (fun cx => ?_)
       refine aT ⟨82,0,[sB 37 (!r9),sB 36 (!r9),sB 35 r9,sI 34 v8.Id,sA 33 6 3 0,sI 5 y2,sA 6 6 3 0,sI 28 y2,sI 27 (x0.Rows.length : Int),sC 26 (cF 3 x0.Rows Vrow.row),sA 2 2 2 0,sI 1 x1],[(6,(Vrow.row v8)),(2,(CV.frzRow (Vtab.row x0)))]⟩ kr ?_
       rw [h7]
       refine aU [(5,[]),(6,[]),(7,[])] 28 [⟨[2],3,33,34⟩] [7,6,5,4,3,2,1,0] rfl kr (fun cx => ?_)
       refine aT ⟨82,0,[sB 40 (decide (y2 > 0)),sB 39 (decide (y2 > 0)),sI 38 y2,sB 37 false,sB 36 false,sB 35 r9,sI 34 v8.Id,sA 33 6 3 0,sI 5 y2,sA 6 6 3 0,sI 28 y2,sI 27 (x0.Rows.length : Int),sC 26 (cF 3 x0.Rows Vrow.row),sA 2 2 2 0,sI 1 x1],[(6,(Vrow.row v8)),(2,(CV.frzRow (Vtab.row x0)))]⟩ kr ?_
       rw [h8]
       refine aU [(8,[]),(9,[]),(10,[]),(11,[])] 24 [⟨[],54,41,42⟩,⟨[2],3,33,34⟩] [11,10,9,8,7,6,5,4,3,2,1,0] rfl kr (fun cx => ?_)
       refine aI 12 54 0 42 44 45 (some (7,true)) ⟨(.box 2),[(0,0)],0,false,3,(CV.frzEs (x0.Rows.map Vrow.row))⟩ (w6 (y2 - 1)) (Vrow.row v12) _ kr kr kr kr kr kr rfl (idx_isF ev12) rfl (fun cx => ?_)
       refine aU [(13,[]),(14,[]),(15,[]),(16,[]),(17,[]),(18,[]),(19,[]),(20,[])] 15 [⟨[],3,48,49⟩,⟨[],54,41,42⟩,⟨[2],3,33,34⟩] [20,19,18,17,16,15,14,13,12,11,10,9,8,7,6,5,4,3,2,1,0] rfl kr (fun cx => ?_)
       refine aT ⟨82,0,[sB 53 (decide (v12.Id ≥ v8.Id)),sB 52 (decide (v12.Id ≥ v8.Id)),sB 51 (decide (v12.Id ≥ v8.Id)),sB 50 (decide (v12.Id ≥ v8.Id)),sI 49 v8.Id,sA 48 6 3 0,sI 47 v12.Id,(46,.fad ((Vrow.row v12))),(45,.fad ((Vrow.row v12))),sI 44 (w6 (y2 - 1)),sI 43 y2,sR 42 2 2 0 1 false,sA 41 2 2 0,sB 40 true,sB 39 true,sI 38 y2,sB 37 false,sB 36 false,sB 35 r9,sI 34 v8.Id,sA 33 6 3 0,sI 5 y2,sA 6 6 3 0,sI 28 y2,sI 27 (x0.Rows.length : Int),sC 26 (cF 3 x0.Rows Vrow.row),sA 2 2 2 0,sI 1 x1],[(6,(Vrow.row v8)),(2,(CV.frzRow (Vtab.row x0)))]⟩ kr ?_
       rw [h11]
       refine aU [(21,[]),(22,[]),(23,[]),(24,[]),(25,[]),(26,[]),(27,[]),(28,[]),(29,[]),(30,[]),(31,[]),(32,[]),(33,[]),(34,[]),(35,[])] 0 [⟨[],3,48,49⟩,⟨[],54,41,42⟩,⟨[2],3,33,34⟩] [35,34,33,32,31,30,29,28,27,26,25,24,23,22,21,20,19,18,17,16,15,14,13,12,11,10,9,8,7,6,5,4,3,2,1,0] rfl kr (fun cx => ?_)
       exact AT.done [68,28,27,26,2,1] [2] _ kr kr rfl
      refine tt kr ?_
      refine tG 1 16 0 kr kr ?_
      refine te ?_
      obtain rfl := si H
      have H := Ho7
      dsimp only at H
      obtain rfl := si H
      exact fO [(false,[cB false])] kr rfl rfl
     have H := bifT h7 H
     refine Tr.draws mixed 36 kr ⟨82,0,[sB 68 true,sI 28 y2,sI 27 (x0.Rows.length : Int),sC 26 (cF 3 x0.Rows Vrow.row),sA 2 2 2 0,sI 1 x1],[(2,(CV.frzRow (Vtab.row x0)))]⟩ (fun cx => ?_) ?_
     ·refine aU [(0,[]),(1,[2])] 34 [⟨[2],3,33,34⟩] [1,0] rfl kr (fun cx => ?_)
      refine b1 2 kr kr ?_
      refine lV [.rd,.rd,.rd] [] (impl_in n v8.Id 1 99 r9 er9) kr kr kr kr (.inl rfl) ?_
      refine lF kr kr kr ?_
      refine aU [(3,[]),(4,[])] 31 [⟨[2],3,33,34⟩] [4,3,2,1,0] rfl kr (fun cx => ?_)
      refine aT ⟨82,0,[sB 37 (!r9),sB 36 (!r9),sB 35 r9,sI 34 v8.Id,sA 33 6 3 0,sI 5 y2,sA 6 6 3 0,sI 28 y2,sI 27 (x0.Rows.length : Int),sC 26 (cF 3 x0.Rows Vrow.row),sA 2 2 2 0,sI 1 x1],[(6,(Vrow.row v8)),(2,(CV.frzRow (Vtab.row x0)))]⟩ kr ?_
      rw [h7]
      refine aU [(5,[]),(6,[]),(7,[]),(8,[]),(9,[]),(10,[]),(11,[]),(12,[]),(13,[]),(14,[]),(15,[]),(16,[]),(17,[]),(18,[]),(19,[]),(20,[]),(21,[]),(22,[]),(23,[]),(24,[]),(25,[]),(26,[]),(27,[]),(28,[]),(29,[]),(30,[]),(31,[]),(32,[]),(33,[]),(34,[]),(35,[])] 0 [⟨[2],3,33,34⟩] [35,34,33,32,31,30,29,28,27,26,25,24,23,22,21,20,19,18,17,16,15,14,13,12,11,10,9,8,7,6,5,4,3,2,1,0] rfl kr (fun cx => ?_)
      exact AT.done [68,28,27,26,2,1] [2] _ kr kr rfl
     refine tt kr ?_
     refine tG 1 16 0 kr kr ?_
     refine te ?_
     obtain rfl := si H
     have H := Ho7
     dsimp only at H
     obtain rfl := si H
     exact fO [(false,[cB false])] kr rfl rfl
    rintro _ H
    have H : (impl_VtabOk_J1 n x0) = some r := H
    unfold impl_VtabOk_J1 at H
    refine tS ?_
    refine rU 2 kr ?_
    refine lL 22 3 3 71 72 none ⟨(.slot 71),[],0,false,1,(CV.frzEs (x0.Pvid.map intRow))⟩ (x0.Pvid).length _ kr kr kr kr kr (frz_len _ _) rfl ?_
    refine uD 1 0x3800000000000000004 4 kr kr ?_
    obtain ⟨o4,eo4,Ho4⟩ := bind_some H
    clear H
    refine Tr.mid (ι := Unit) (fun v => ⟨82,0,[],[]⟩) (fun v => impl_VtabOk_J2 n = some r) ?_ ?_
    ·refine tB ?_
     refine Tr.loop (ι := Nat × (Int)) (fun v => ⟨82,0,[sI 73 v.2,sI 72 (x0.Pvid.length : Int),sC 71 (cF 1 x0.Pvid intRow),sA 2 2 2 0],[(2,(CV.frzRow (Vtab.row x0)))]⟩) (fun v => impl_VtabOk_L3 n v.1 x0 v.2 = some o4) (fun v => v.1) (n,0) eo4 (St.sub_of [73,72,71,2] [2] kr) ?_
     rintro ⟨mo4,y3⟩ H
     have H : impl_VtabOk_L3 n mo4 x0 y3 = some o4 := H
     obtain _ | mo4 := mo4
     ·cases (show (none : Option _) = some o4 from H)
     rw [impl_VtabOk_L3] at H
     refine tG 1 0x7800000000000000004 4 kr kr ?_
     refine tS ?_
     obtain ⟨h4,H⟩ | ⟨h4,H⟩ := bC H
     ·refine tF h4 kr ?_
      refine Tr.exit ?_
      refine And.intro (fun _ => ?_) (fun h => absurd rfl h)
      obtain rfl := si H
      have H := Ho4
      dsimp only at H
      exact jn () H (sB_ [] [] kr)
     refine tT h4 kr ?_
     refine tK ?_
     refine tS ?_
     refine tB ?_
     refine tR ?_
     obtain ⟨v5,ev5,H⟩ := bind_some H
     refine lI 22 0 71 73 75 none ⟨(.slot 71),[],0,false,1,(CV.frzEs (x0.Pvid.map intRow))⟩ y3 [cI v5] _ kr kr kr kr rfl (idx_isF ev5) rfl ?_
     refine uD 2 0x3800000000000000104 4 kr kr ?_
     refine rU 2 kr ?_
     obtain ⟨r6,er6,H⟩ := bind_some H
     refine lV [.rd,.rd] [] (impl_RowAt n x0 v5 r6 er6) kr kr kr kr (.inl rfl) ?_
     refine uD 1 0x103800000000000000004 4 kr kr ?_
     obtain ⟨h5,H⟩ | ⟨h5,H⟩ := bC H
     ·refine tF h5 kr ?_
      refine tK ?_
      refine tE 2 0x3800000000000000004 4 kr kr ?_
      exact jn (mo4,(w6 (y3 + 1))) H (sM mo4 [73,72,71,2] [2] kr)
     refine tT h5 kr ?_
     refine tG 1 16 0 kr kr ?_
     refine te ?_
     obtain rfl := si H
     have H := Ho4
     dsimp only at H
     obtain rfl := si H
     exact fO [(false,[cB false])] kr rfl rfl
    rintro _ H
    have H : (impl_VtabOk_J2 n) = some r := H
    unfold impl_VtabOk_J2 at H
    refine tG 1 16 0 kr kr ?_
    exact te (by obtain rfl := si H; exact fO [(false,[cB true])] kr rfl rfl)
   refine tT h3 kr ?_
   refine tG 1 16 0 kr kr ?_
   exact te (by obtain rfl := si H; exact fO [(false,[cB false])] kr rfl rfl)
  have H := bifT h2 H
  refine uD 5 16777222 4 kr kr ?_
  refine tt kr ?_
  refine tG 1 16 0 kr kr ?_
  exact te (by obtain rfl := si H; exact fO [(false,[cB false])] kr rfl rfl)
 have H := bifT h1 H
 refine uD 12 16777222 4 kr kr ?_
 refine tt kr ?_
 refine tG 1 16 0 kr kr ?_
 exact te (by obtain rfl := si H; exact fO [(false,[cB false])] kr rfl rfl)
def impl_isCountF (n : Nat) (x0 : Int) : Option (Bool) :=
  ((impl_inF n x0 0 1000000).bind fun r1 => (some r1))
theorem impl_isCount (n : Nat) (x0 : Int) (r : Bool) (H : impl_isCountF n x0 = some r) : LCall Tryz.prog 161 [.val false [.lit (.int .i64 x0)]] [.val false [.lit (.bool r)]] [] := by
 refine LCall.of_body tOk Tryz.func161 rfl (c := (.seq (Rg Tryz.f161 0) (.seq (Rg Tryz.f161 1) .ret))) kr (Nat.le_of_ble_eq_true kr) 0 (rs := [.tmp 2]) rfl [] .nil [(false,[.lit (.bool r)])] [] [] fun cx => ?_
 show Tr _ _ _ ⟨5,0,[sI 0 x0],[]⟩ _
 unfold impl_isCountF at H
 refine tG 1 1 0 kr kr ?_
 refine rU 1 kr ?_
 obtain ⟨r1,er1,H⟩ := bind_some H
 refine lV [.rd,.rd,.rd] [] (impl_in n x0 0 1000000 r1 er1) kr kr kr kr (.inl rfl) ?_
 refine uD 1 4 0 kr kr ?_
 exact te (by obtain rfl := si H; exact fO [(false,[cB r1])] kr rfl rfl)
def impl_BridgeOk_J1 (n : Nat) (x0 : Bridge) : Option (Bool) :=
  ((impl_inF n x0.Id 1 99).bind fun r2 => (bif (!r2) then (some false) else (bif (decide ((x0.Name.size : Int) > 10)) then (some false) else ((impl_inF n (x0.Ports.length : Int) 1 6).bind fun r3 => (bif (!r3) then (some false) else ((impl_FdbOkF n x0.F).bind fun r4 => (bif (!r4) then (some false) else ((impl_VtabOkF n x0.V (x0.Ports.length : Int)).bind fun r5 => (bif (!r5) then (some false) else ((impl_isCountF n x0.Ticks).bind fun r6 => (bif r6 then ((impl_isCountF n x0.Parse).bind fun r7 => (bif r7 then ((impl_isCountF n x0.Word).bind fun r8 => (bif r8 then ((impl_isCountF n x0.Drops).bind fun r9 => (bif r9 then ((impl_isCountF n x0.Vers).bind fun r10 => (some r10)) else (some false))) else (some false))) else (some false))) else (some false))))))))))))
def impl_BridgeOk_L2 (n : Nat) : Nat → Bridge → Int → Option ((Unit) ⊕ (Bool))
  | 0,_,_ => none
  | mo11 + 1,x0,y1 => (bif (decide (y1 < (x0.Ports.length : Int))) then ((idx x0.Ports y1).bind fun v12 => ((impl_PtOkF n v12).bind fun r13 => (bif (!r13) then (some (Sum.inr false)) else (impl_BridgeOk_L2 n mo11 x0 (IntKind.wrap .i64 (y1 + 1)))))) else (some (Sum.inl ())))
def impl_BridgeOkF (n : Nat) (x0 : Bridge) : Option (Bool) :=
  ((impl_BridgeOk_L2 n n x0 0).bind fun o => match o with | .inl _ => (impl_BridgeOk_J1 n x0) | .inr r => some r)
noncomputable abbrev G57 (k : Nat) := Rg Tryz.f57 k
theorem impl_BridgeOk (n : Nat) (x0 : Bridge) (r : Bool) (H : impl_BridgeOkF n x0 = some r) : LCall Tryz.prog 57 [.val true (CV.frzRow (Bridge.row x0))] [.val false [.lit (.bool r)]] [] := by
 refine LCall.of_body tOk Tryz.func57 rfl (c := (.seq (G57 0) (.seq (.seq (G57 1) (.block 0 (.loop (.seq (G57 2) (.seq (.cond (.tmp 9) .skip (.exit 0)) (.seq (.block 1 (.seq (G57 3) (.seq (G57 4) (.cond (.tmp 14) (.seq (G57 5) .ret) .skip)))) (G57 6))))))) (.seq (.seq (G57 7) (.cond (.tmp 47) (.seq (G57 8) .ret) .skip)) (.seq (G57 9) .ret))))) kr (Nat.le_of_ble_eq_true kr) 0 (rs := [.tmp 2]) rfl [] .nil [(false,[.lit (.bool r)])] [] [] fun cx => ?_
 show Tr _ _ _ ⟨71,0,[sV 0 (CV.frzRow (Bridge.row x0))],[]⟩ _
 unfold impl_BridgeOkF at H
 refine tG 2 2 2 kr kr ?_
 refine tS ?_
 refine rU 2 kr ?_
 refine lL 52 3 182 6 7 none ⟨(.slot 6),[],0,false,8,(CV.frzEs (x0.Ports.map Pt.row))⟩ (x0.Ports).length _ kr kr kr kr kr (frz_len _ _) rfl ?_
 refine uD 1 450 2 kr kr ?_
 obtain ⟨o11,eo11,Ho11⟩ := bind_some H
 clear H
 refine Tr.mid (ι := Unit) (fun v => ⟨71,0,[sA 1 1 11 0],[(1,(CV.frzRow (Bridge.row x0)))]⟩) (fun v => impl_BridgeOk_J1 n x0 = some r) ?_ ?_
 ·refine tB ?_
  refine Tr.loop (ι := Nat × (Int)) (fun v => ⟨71,0,[sI 8 v.2,sI 7 (x0.Ports.length : Int),sC 6 (cF 8 x0.Ports Pt.row),sA 1 1 11 0],[(1,(CV.frzRow (Bridge.row x0)))]⟩) (fun v => impl_BridgeOk_L2 n v.1 x0 v.2 = some o11) (fun v => v.1) (n,0) eo11 (St.sub_of [8,7,6,1] [1] kr) ?_
  rintro ⟨mo11,y1⟩ H
  have H : impl_BridgeOk_L2 n mo11 x0 y1 = some o11 := H
  obtain _ | mo11 := mo11
  ·cases (show (none : Option _) = some o11 from H)
  rw [impl_BridgeOk_L2] at H
  refine tG 1 962 2 kr kr ?_
  refine tS ?_
  obtain ⟨h10,H⟩ | ⟨h10,H⟩ := bC H
  ·refine tF h10 kr ?_
   refine Tr.exit ?_
   refine And.intro (fun _ => ?_) (fun h => absurd rfl h)
   obtain rfl := si H
   have H := Ho11
   dsimp only at H
   exact jn () H (sB_ [1] [1] kr)
  refine tT h10 kr ?_
  refine tK ?_
  refine tS ?_
  refine tB ?_
  refine tR ?_
  obtain ⟨v12,ev12,H⟩ := bind_some H
  refine lI 52 0 6 8 10 none ⟨(.slot 6),[],0,false,8,(CV.frzEs (x0.Ports.map Pt.row))⟩ y1 (Pt.row v12) _ kr kr kr kr rfl (idx_isF ev12) rfl ?_
  refine uD 3 466 18 kr kr ?_
  refine rU 1 kr ?_
  obtain ⟨r13,er13,H⟩ := bind_some H
  refine lV [.rd] [] (impl_PtOk n v12 r13 er13) kr kr kr kr (.inl rfl) ?_
  refine uD 1 16834 2 kr kr ?_
  obtain ⟨h11,H⟩ | ⟨h11,H⟩ := bC H
  ·refine tF h11 kr ?_
   refine tK ?_
   refine tE 2 450 2 kr kr ?_
   exact jn (mo11,(w6 (y1 + 1))) H (sM mo11 [8,7,6,1] [1] kr)
  refine tT h11 kr ?_
  refine tG 1 4 0 kr kr ?_
  refine te ?_
  obtain rfl := si H
  have H := Ho11
  dsimp only at H
  obtain rfl := si H
  exact fO [(false,[cB false])] kr rfl rfl
 rintro _ H
 have H : (impl_BridgeOk_J1 n x0) = some r := H
 unfold impl_BridgeOk_J1 at H
 refine tS ?_
 refine rU 2 kr ?_
 obtain ⟨r2,er2,H⟩ := bind_some H
 refine lV [.rd,.rd,.rd] [] (impl_in n x0.Id 1 99 r2 er2) kr kr kr kr (.inl rfl) ?_
 refine lU 2 kr ?_
 refine lT ⟨71,0,[sB 20 (!r2),sB 19 (!r2),sB 18 r2,sI 17 x0.Id,sA 16 1 11 0,sA 1 1 11 0],[(1,(CV.frzRow (Bridge.row x0)))]⟩ kr ?_
 cases h1 : (!r2)
 ·have H := bifF h1 H
  refine lU 6 kr ?_
  refine lT ⟨71,0,[sB 26 (decide ((x0.Name.size : Int) > 10)),sB 25 (decide ((x0.Name.size : Int) > 10)),sB 24 (decide ((x0.Name.size : Int) > 10)),sI 23 (x0.Name.size : Int),sC 22 (cS x0.Name),sA 21 1 11 1,sB 20 false,sB 19 false,sB 18 r2,sI 17 x0.Id,sA 16 1 11 0,sA 1 1 11 0],[(1,(CV.frzRow (Bridge.row x0)))]⟩ kr ?_
  cases h2 : (decide ((x0.Name.size : Int) > 10))
  ·have H := bifF h2 H
   refine lU 2 kr ?_
   refine lL 52 3 182 28 29 (some (10,false)) ⟨(.slot 28),[],0,false,8,(CV.frzEs (x0.Ports.map Pt.row))⟩ (x0.Ports).length _ kr kr kr kr kr (frz_len _ _) rfl ?_
   obtain ⟨r3,er3,H⟩ := bind_some H
   refine lV [.rd,.rd,.rd] [] (impl_in n (x0.Ports.length : Int) 1 6 r3 er3) kr kr kr kr (.inl rfl) ?_
   refine lU 3 kr ?_
   refine lT ⟨71,0,[sB 33 (!r3),sB 32 (!r3),sB 31 (!r3),sB 30 r3,sI 29 (x0.Ports.length : Int),sC 28 (cF 8 x0.Ports Pt.row),sA 27 1 11 2,sB 26 false,sB 25 false,sB 24 false,sI 23 (x0.Name.size : Int),sC 22 (cS x0.Name),sA 21 1 11 1,sB 20 false,sB 19 false,sB 18 r2,sI 17 x0.Id,sA 16 1 11 0,sA 1 1 11 0],[(1,(CV.frzRow (Bridge.row x0)))]⟩ kr ?_
   cases h3 : (!r3)
   ·have H := bifF h3 H
    refine lU 2 kr ?_
    obtain ⟨r4,er4,H⟩ := bind_some H
    refine lV [.rd] [] (impl_FdbOk n x0.F r4 er4) kr kr kr kr (.inl rfl) ?_
    refine lU 3 kr ?_
    refine lT ⟨71,0,[sB 39 (!r4),sB 38 (!r4),sB 37 (!r4),sB 36 r4,sC 35 (cF 5 x0.F Fent.row),sA 34 1 11 3,sB 33 false,sB 32 false,sB 31 false,sB 30 r3,sI 29 (x0.Ports.length : Int),sC 28 (cF 8 x0.Ports Pt.row),sA 27 1 11 2,sB 26 false,sB 25 false,sB 24 false,sI 23 (x0.Name.size : Int),sC 22 (cS x0.Name),sA 21 1 11 1,sB 20 false,sB 19 false,sB 18 r2,sI 17 x0.Id,sA 16 1 11 0,sA 1 1 11 0],[(1,(CV.frzRow (Bridge.row x0)))]⟩ kr ?_
    cases h4 : (!r4)
    ·have H := bifF h4 H
     refine lU 4 kr ?_
     refine lL 52 3 182 43 44 (some (23,false)) ⟨(.slot 43),[],0,false,8,(CV.frzEs (x0.Ports.map Pt.row))⟩ (x0.Ports).length _ kr kr kr kr kr (frz_len _ _) rfl ?_
     obtain ⟨r5,er5,H⟩ := bind_some H
     refine lV [.rd,.rd] [] (impl_VtabOk n x0.V (x0.Ports.length : Int) r5 er5) kr kr kr kr (.inl rfl) ?_
     refine uD 2 0x800000000002 2 kr kr ?_
     obtain ⟨h5,H⟩ | ⟨h5,H⟩ := bC H
     ·refine tF h5 kr ?_
      refine tK ?_
      refine rU 2 kr ?_
      obtain ⟨r6,er6,H⟩ := bind_some H
      refine lV [.rd] [] (impl_isCount n x0.Ticks r6 er6) kr kr kr kr (.inl rfl) ?_
      refine lU 1 kr ?_
      refine lT ⟨71,0,[sB 51 r6,sB 50 r6,sI 49 x0.Ticks,sA 48 1 11 6,sB 47 (!r5),sA 1 1 11 0],[(1,(CV.frzRow (Bridge.row x0)))]⟩ kr ?_
      cases h6 : r6
      ·have H := bifF h6 H
       refine uD 20 4 0 kr kr ?_
       exact te (by obtain rfl := si H; exact fO [(false,[cB false])] kr rfl rfl)
      have H := bifT h6 H
      refine lU 2 kr ?_
      obtain ⟨r7,er7,H⟩ := bind_some H
      refine lV [.rd] [] (impl_isCount n x0.Parse r7 er7) kr kr kr kr (.inl rfl) ?_
      refine lU 2 kr ?_
      refine lT ⟨71,0,[sB 56 r7,sB 55 r7,sB 54 r7,sI 53 x0.Parse,sA 52 1 11 7,sB 51 true,sB 50 true,sI 49 x0.Ticks,sA 48 1 11 6,sB 47 (!r5),sA 1 1 11 0],[(1,(CV.frzRow (Bridge.row x0)))]⟩ kr ?_
      cases h7 : r7
      ·have H := bifF h7 H
       refine uD 15 4 0 kr kr ?_
       exact te (by obtain rfl := si H; exact fO [(false,[cB false])] kr rfl rfl)
      have H := bifT h7 H
      refine lU 2 kr ?_
      obtain ⟨r8,er8,H⟩ := bind_some H
      refine lV [.rd] [] (impl_isCount n x0.Word r8 er8) kr kr kr kr (.inl rfl) ?_
      refine lU 2 kr ?_
      refine lT ⟨71,0,[sB 61 r8,sB 60 r8,sB 59 r8,sI 58 x0.Word,sA 57 1 11 8,sB 56 true,sB 55 true,sB 54 true,sI 53 x0.Parse,sA 52 1 11 7,sB 51 true,sB 50 true,sI 49 x0.Ticks,sA 48 1 11 6,sB 47 (!r5),sA 1 1 11 0],[(1,(CV.frzRow (Bridge.row x0)))]⟩ kr ?_
      cases h8 : r8
      ·have H := bifF h8 H
       refine uD 10 4 0 kr kr ?_
       exact te (by obtain rfl := si H; exact fO [(false,[cB false])] kr rfl rfl)
      have H := bifT h8 H
      refine lU 2 kr ?_
      obtain ⟨r9,er9,H⟩ := bind_some H
      refine lV [.rd] [] (impl_isCount n x0.Drops r9 er9) kr kr kr kr (.inl rfl) ?_
      refine lU 2 kr ?_
      refine lT ⟨71,0,[sB 66 r9,sB 65 r9,sB 64 r9,sI 63 x0.Drops,sA 62 1 11 9,sB 61 true,sB 60 true,sB 59 true,sI 58 x0.Word,sA 57 1 11 8,sB 56 true,sB 55 true,sB 54 true,sI 53 x0.Parse,sA 52 1 11 7,sB 51 true,sB 50 true,sI 49 x0.Ticks,sA 48 1 11 6,sB 47 (!r5),sA 1 1 11 0],[(1,(CV.frzRow (Bridge.row x0)))]⟩ kr ?_
      cases h9 : r9
      ·have H := bifF h9 H
       refine uD 5 4 0 kr kr ?_
       exact te (by obtain rfl := si H; exact fO [(false,[cB false])] kr rfl rfl)
      have H := bifT h9 H
      refine lU 2 kr ?_
      obtain ⟨r10,er10,H⟩ := bind_some H
      refine lV [.rd] [] (impl_isCount n x0.Vers r10 er10) kr kr kr kr (.inl rfl) ?_
      refine uD 2 4 0 kr kr ?_
      exact te (by obtain rfl := si H; exact fO [(false,[cB r10])] kr rfl rfl)
     refine tT h5 kr ?_
     refine tG 1 4 0 kr kr ?_
     exact te (by obtain rfl := si H; exact fO [(false,[cB false])] kr rfl rfl)
    have H := bifT h4 H
    refine uD 8 0x800000000002 2 kr kr ?_
    refine tt kr ?_
    refine tG 1 4 0 kr kr ?_
    exact te (by obtain rfl := si H; exact fO [(false,[cB false])] kr rfl rfl)
   have H := bifT h3 H
   refine uD 14 0x800000000002 2 kr kr ?_
   refine tt kr ?_
   refine tG 1 4 0 kr kr ?_
   exact te (by obtain rfl := si H; exact fO [(false,[cB false])] kr rfl rfl)
  have H := bifT h2 H
  refine uD 21 0x800000000002 2 kr kr ?_
  refine tt kr ?_
  refine tG 1 4 0 kr kr ?_
  exact te (by obtain rfl := si H; exact fO [(false,[cB false])] kr rfl rfl)
 have H := bifT h1 H
 refine uD 27 0x800000000002 2 kr kr ?_
 refine tt kr ?_
 refine tG 1 4 0 kr kr ?_
 exact te (by obtain rfl := si H; exact fO [(false,[cB false])] kr rfl rfl)
def impl_ends_J1 (n : Nat) : Option (Bool) :=
  (some false)
def impl_ends_L2 (n : Nat) : Nat → (List Link) → Int → Int → Int → Option ((Unit) ⊕ (Bool))
  | 0,_,_,_,_ => none
  | mo2 + 1,x0,x1,x2,y1 => (bif (decide (y1 < (x0.length : Int))) then ((idx x0 y1).bind fun v3 => (bif (v3.A == x1) then (bif (v3.P == x2) then (some (Sum.inr true)) else (bif (v3.B == x1) then (bif (v3.Q == x2) then (some (Sum.inr true)) else (impl_ends_L2 n mo2 x0 x1 x2 (IntKind.wrap .i64 (y1 + 1)))) else (impl_ends_L2 n mo2 x0 x1 x2 (IntKind.wrap .i64 (y1 + 1))))) else (bif (v3.B == x1) then (bif (v3.Q == x2) then (some (Sum.inr true)) else (impl_ends_L2 n mo2 x0 x1 x2 (IntKind.wrap .i64 (y1 + 1)))) else (impl_ends_L2 n mo2 x0 x1 x2 (IntKind.wrap .i64 (y1 + 1)))))) else (some (Sum.inl ())))
def impl_endsF (n : Nat) (x0 : (List Link)) (x1 : Int) (x2 : Int) : Option (Bool) :=
  ((impl_ends_L2 n n x0 x1 x2 0).bind fun o => match o with | .inl _ => (impl_ends_J1 n) | .inr r => some r)
noncomputable abbrev G168 (k : Nat) := Rg Tryz.f168 k
theorem impl_ends (n : Nat) (x0 : (List Link)) (x1 : Int) (x2 : Int) (r : Bool) (H : impl_endsF n x0 x1 x2 = some r) : LCall Tryz.prog 168 [.val false [.sl false 4 (CV.frzEs (x0.map Link.row))],.val false [.lit (.int .i64 x1)],.val false [.lit (.int .i64 x2)]] [.val false [.lit (.bool r)]] [] := by
 refine LCall.of_body tOk Tryz.func168 rfl (c := (.seq (G168 0) (.seq (.seq (G168 1) (.block 0 (.loop (.seq (G168 2) (.seq (.cond (.tmp 12) .skip (.exit 0)) (.seq (.block 1 (.seq (G168 3) (.seq (G168 4) (.cond (.tmp 36) (.seq (G168 5) .ret) .skip)))) (G168 6))))))) (.seq (G168 7) .ret)))) kr (Nat.le_of_ble_eq_true kr) 0 (rs := [.tmp 6]) rfl [] .nil [(false,[.lit (.bool r)])] [] [] fun cx => ?_
 show Tr _ _ _ ⟨38,0,[sC 0 (cF 4 x0 Link.row),sI 1 x1,sI 2 x2],[]⟩ _
 unfold impl_endsF at H
 refine tG 1 7 0 kr kr ?_
 refine tS ?_
 refine rU 1 kr ?_
 refine lL 26 3 126 9 10 none ⟨(.slot 9),[],0,false,4,(CV.frzEs (x0.map Link.row))⟩ (x0).length _ kr kr kr kr kr (frz_len _ _) rfl ?_
 refine uD 1 3590 0 kr kr ?_
 obtain ⟨o2,eo2,Ho2⟩ := bind_some H
 clear H
 refine Tr.mid (ι := Unit) (fun v => ⟨38,0,[],[]⟩) (fun v => impl_ends_J1 n = some r) ?_ ?_
 ·refine tB ?_
  refine Tr.loop (ι := Nat × (Int)) (fun v => ⟨38,0,[sI 11 v.2,sI 10 (x0.length : Int),sC 9 (cF 4 x0 Link.row),sI 1 x1,sI 2 x2],[]⟩) (fun v => impl_ends_L2 n v.1 x0 x1 x2 v.2 = some o2) (fun v => v.1) (n,0) eo2 (St.sub_of [11,10,9,1,2] [] kr) ?_
  rintro ⟨mo2,y1⟩ H
  have H : impl_ends_L2 n mo2 x0 x1 x2 y1 = some o2 := H
  obtain _ | mo2 := mo2
  ·cases (show (none : Option _) = some o2 from H)
  rw [impl_ends_L2] at H
  refine tG 1 7686 0 kr kr ?_
  refine tS ?_
  obtain ⟨h1,H⟩ | ⟨h1,H⟩ := bC H
  ·refine tF h1 kr ?_
   refine Tr.exit ?_
   refine And.intro (fun _ => ?_) (fun h => absurd rfl h)
   obtain rfl := si H
   have H := Ho2
   dsimp only at H
   exact jn () H (sB_ [] [] kr)
  refine tT h1 kr ?_
  refine tK ?_
  refine tS ?_
  refine tB ?_
  refine tR ?_
  obtain ⟨v3,ev3,H⟩ := bind_some H
  refine lI 26 0 9 11 13 none ⟨(.slot 9),[],0,false,4,(CV.frzEs (x0.map Link.row))⟩ y1 (Link.row v3) _ kr kr kr kr rfl (idx_isF ev3) rfl ?_
  refine uD 3 3846 256 kr kr ?_
  refine rU 5 kr ?_
  refine lT ⟨38,0,[sB 19 (v3.A == x1),sB 18 (v3.A == x1),sI 17 x1,sI 16 v3.A,sA 15 8 4 0,sA 8 8 4 0,sI 11 y1,sI 10 (x0.length : Int),sC 9 (cF 4 x0 Link.row),sI 1 x1,sI 2 x2],[(8,(Link.row v3))]⟩ kr ?_
  cases h2 : (v3.A == x1)
  ·have H := bifF h2 H
   refine lU 11 kr ?_
   refine lT ⟨38,0,[sB 30 (v3.B == x1),sB 29 (v3.B == x1),sI 28 x1,sI 27 v3.B,sA 26 8 4 2,sB 25 false,sB 24 false,(23,.tup []),(22,.tup []),(21,.tup []),(20,.tup []),sB 19 false,sB 18 false,sI 17 x1,sI 16 v3.A,sA 15 8 4 0,sA 8 8 4 0,sI 11 y1,sI 10 (x0.length : Int),sC 9 (cF 4 x0 Link.row),sI 1 x1,sI 2 x2],[(8,(Link.row v3))]⟩ kr ?_
   cases h3 : (v3.B == x1)
   ·have H := bifF h3 H
    refine uD 6 68719480326 0 kr kr ?_
    refine tf kr ?_
    refine tK ?_
    refine tE 2 3590 0 kr kr ?_
    exact jn (mo2,(w6 (y1 + 1))) H (sM mo2 [11,10,9,1,2] [] kr)
   have H := bifT h3 H
   refine uD 6 68719480326 0 kr kr ?_
   obtain ⟨h4,H⟩ | ⟨h4,H⟩ := bC H
   ·refine tF h4 kr ?_
    refine tK ?_
    refine tE 2 3590 0 kr kr ?_
    exact jn (mo2,(w6 (y1 + 1))) H (sM mo2 [11,10,9,1,2] [] kr)
   refine tT h4 kr ?_
   refine tG 1 64 0 kr kr ?_
   refine te ?_
   obtain rfl := si H
   have H := Ho2
   dsimp only at H
   obtain rfl := si H
   exact fO [(false,[cB true])] kr rfl rfl
  have H := bifT h2 H
  refine lU 6 kr ?_
  refine lT ⟨38,0,[sB 25 (v3.P == x2),sB 24 (v3.P == x2),sB 23 (v3.P == x2),sI 22 x2,sI 21 v3.P,sA 20 8 4 1,sB 19 true,sB 18 true,sI 17 x1,sI 16 v3.A,sA 15 8 4 0,sA 8 8 4 0,sI 11 y1,sI 10 (x0.length : Int),sC 9 (cF 4 x0 Link.row),sI 1 x1,sI 2 x2],[(8,(Link.row v3))]⟩ kr ?_
  cases h5 : (v3.P == x2)
  ·have H := bifF h5 H
   refine lU 5 kr ?_
   refine lT ⟨38,0,[sB 30 (v3.B == x1),sB 29 (v3.B == x1),sI 28 x1,sI 27 v3.B,sA 26 8 4 2,sB 25 false,sB 24 false,sB 23 false,sI 22 x2,sI 21 v3.P,sA 20 8 4 1,sB 19 true,sB 18 true,sI 17 x1,sI 16 v3.A,sA 15 8 4 0,sA 8 8 4 0,sI 11 y1,sI 10 (x0.length : Int),sC 9 (cF 4 x0 Link.row),sI 1 x1,sI 2 x2],[(8,(Link.row v3))]⟩ kr ?_
   cases h6 : (v3.B == x1)
   ·have H := bifF h6 H
    refine uD 6 68719480326 0 kr kr ?_
    refine tf kr ?_
    refine tK ?_
    refine tE 2 3590 0 kr kr ?_
    exact jn (mo2,(w6 (y1 + 1))) H (sM mo2 [11,10,9,1,2] [] kr)
   have H := bifT h6 H
   refine uD 6 68719480326 0 kr kr ?_
   obtain ⟨h7,H⟩ | ⟨h7,H⟩ := bC H
   ·refine tF h7 kr ?_
    refine tK ?_
    refine tE 2 3590 0 kr kr ?_
    exact jn (mo2,(w6 (y1 + 1))) H (sM mo2 [11,10,9,1,2] [] kr)
   refine tT h7 kr ?_
   refine tG 1 64 0 kr kr ?_
   refine te ?_
   obtain rfl := si H
   have H := Ho2
   dsimp only at H
   obtain rfl := si H
   exact fO [(false,[cB true])] kr rfl rfl
  have H := bifT h5 H
  refine uD 11 68719480326 0 kr kr ?_
  refine tt kr ?_
  refine tG 1 64 0 kr kr ?_
  refine te ?_
  obtain rfl := si H
  have H := Ho2
  dsimp only at H
  obtain rfl := si H
  exact fO [(false,[cB true])] kr rfl rfl
 rintro _ H
 have H : (impl_ends_J1 n) = some r := H
 unfold impl_ends_J1 at H
 refine tG 1 64 0 kr kr ?_
 exact te (by obtain rfl := si H; exact fO [(false,[cB false])] kr rfl rfl)
def impl_portAtF (n : Nat) (x0 : Net) (x1 : Int) (x2 : Int) : Option (Pt × Bool) :=
  ((impl_inF n x1 0 (IntKind.wrap .i64 ((x0.Bridges.length : Int) - 1))).bind fun r1 => (bif (!r1) then (some ((⟨false,0,false,(⟨0,0,0,0,0⟩ : Vec)⟩ : Pt),false)) else ((idx x0.Bridges x1).bind fun v2 => ((impl_inF n x2 0 (IntKind.wrap .i64 ((v2.Ports.length : Int) - 1))).bind fun r3 => (bif (!r3) then (some ((⟨false,0,false,(⟨0,0,0,0,0⟩ : Vec)⟩ : Pt),false)) else ((idx x0.Bridges x1).bind fun v4 => ((idx v4.Ports x2).bind fun v5 => (some (v5,true)))))))))
theorem impl_portAt (n : Nat) (x0 : Net) (x1 : Int) (x2 : Int) (r : Pt × Bool) (H : impl_portAtF n x0 x1 x2 = some r) : LCall Tryz.prog 178 [.val true (CV.frzRow (Net.row x0)),.val false [.lit (.int .i64 x1)],.val false [.lit (.int .i64 x2)]] [.val true (Pt.row r.1),.val false [.lit (.bool r.2)]] [] := by
 refine LCall.of_body tOk Tryz.func178 rfl (c := (.seq (Rg Tryz.f178 0) (.seq (.seq (Rg Tryz.f178 1) (.cond (.tmp 27) (.seq (Rg Tryz.f178 2) .ret) .skip)) (.seq (Rg Tryz.f178 3) .ret)))) kr (Nat.le_of_ble_eq_true kr) 0 (rs := [.cell 6 182,.tmp 7]) rfl [] .nil [(true,(Pt.row r.1)),(false,[.lit (.bool r.2)])] [] [] fun cx => ?_
 show Tr _ _ _ ⟨38,0,[sV 0 (CV.frzRow (Net.row x0)),sI 1 x1,sI 2 x2],[]⟩ _
 unfold impl_portAtF at H
 refine tG 3 78 72 kr kr ?_
 refine tS ?_
 refine rU 3 kr ?_
 refine lL 25 3 58 10 11 none ⟨(.slot 10),[],0,false,11,(CV.frzEs (x0.Bridges.map Bridge.row))⟩ (x0.Bridges).length _ kr kr kr kr kr (frz_len _ _) rfl ?_
 refine lU 1 kr ?_
 obtain ⟨r1,er1,H⟩ := bind_some H
 refine lV [.rd,.rd,.rd] [] (impl_in n x1 0 (w6 ((x0.Bridges.length : Int) - 1)) r1 er1) kr kr kr kr (.inl rfl) ?_
 refine lU 2 kr ?_
 refine lT ⟨38,0,[sB 15 (!r1),sB 14 (!r1),sB 13 r1,sI 12 (w6 ((x0.Bridges.length : Int) - 1)),sI 11 (x0.Bridges.length : Int),sC 10 (cF 11 x0.Bridges Bridge.row),sA 9 3 3 0,sI 8 x1,sA 6 6 8 0,sA 3 3 3 0,sI 1 x1,sI 2 x2],[(6,[cB false,cI 0,cB false,cI 0,cI 0,cI 0,cI 0,cI 0]),(3,(CV.frzRow (Net.row x0)))]⟩ kr ?_
 cases h1 : (!r1)
 ·have H := bifF h1 H
  refine lU 4 kr ?_
  obtain ⟨v2,ev2,H⟩ := bind_some H
  refine lI 25 0 18 19 20 (some (7,false)) ⟨(.slot 18),[],0,false,11,(CV.frzEs (x0.Bridges.map Bridge.row))⟩ x1 (CV.frzRow (Bridge.row v2)) _ kr kr kr kr rfl (idx_isF ev2) rfl ?_
  refine lU 2 kr ?_
  refine lL 52 3 182 22 23 (some (7,false)) ⟨(.slot 22),[],0,false,8,(CV.frzEs (v2.Ports.map Pt.row))⟩ (v2.Ports).length _ kr kr kr kr kr (frz_len _ _) rfl ?_
  refine lU 1 kr ?_
  obtain ⟨r3,er3,H⟩ := bind_some H
  refine lV [.rd,.rd,.rd] [] (impl_in n x2 0 (w6 ((v2.Ports.length : Int) - 1)) r3 er3) kr kr kr kr (.inl rfl) ?_
  refine uD 2 134217806 72 kr kr ?_
  obtain ⟨h2,H⟩ | ⟨h2,H⟩ := bC H
  ·refine tF h2 kr ?_
   refine tK ?_
   refine rU 3 kr ?_
   obtain ⟨v4,ev4,H⟩ := bind_some H
   refine lI 25 0 30 31 32 none ⟨(.slot 30),[],0,false,11,(CV.frzEs (x0.Bridges.map Bridge.row))⟩ x1 (CV.frzRow (Bridge.row v4)) _ kr kr kr kr rfl (idx_isF ev4) rfl ?_
   refine lU 3 kr ?_
   obtain ⟨v5,ev5,H⟩ := bind_some H
   refine lI 52 0 34 35 36 none ⟨(.slot 34),[],0,false,8,(CV.frzEs (v4.Ports.map Pt.row))⟩ x2 (Pt.row v5) _ kr kr kr kr rfl (idx_isF ev5) rfl ?_
   refine uD 3 192 64 kr kr ?_
   exact te (by obtain rfl := si H; exact fO [(true,(Pt.row v5)),(false,[cB true])] kr rfl rfl)
  refine tT h2 kr ?_
  refine tG 3 192 64 kr kr ?_
  exact te (by obtain rfl := si H; exact fO [(true,[cB false,cI 0,cB false,cI 0,cI 0,cI 0,cI 0,cI 0]),(false,[cB false])] kr rfl rfl)
 have H := bifT h1 H
 refine uD 12 134217806 72 kr kr ?_
 refine tt kr ?_
 refine tG 3 192 64 kr kr ?_
 exact te (by obtain rfl := si H; exact fO [(true,[cB false,cI 0,cB false,cI 0,cI 0,cI 0,cI 0,cI 0]),(false,[cB false])] kr rfl rfl)
def impl_linksOk_J1 (n : Nat) : Option (Bool) :=
  (some true)
def impl_linksOk_L2 (n : Nat) : Nat → Net → Int → Option ((Unit) ⊕ (Bool))
  | 0,_,_ => none
  | mo2 + 1,x0,y1 => (bif (decide (y1 < (x0.Links.length : Int))) then ((idx x0.Links y1).bind fun v3 => ((impl_portAtF n x0 v3.A v3.P).bind fun r4 => ((impl_portAtF n x0 v3.B v3.Q).bind fun r5 => (bif (decide (y1 ≥ 9)) then (some (Sum.inr false)) else (bif (!r4.2) then (some (Sum.inr false)) else (bif (!r5.2) then (some (Sum.inr false)) else (bif (v3.A == v3.B) then (some (Sum.inr false)) else (bif (!(r4.1.Up == r5.1.Up)) then (some (Sum.inr false)) else (bif (decide ((0 : Int) ≤ 0) && (decide ((0 : Int) ≤ y1) && decide ((y1 : Int) ≤ (x0.Links.length : Int)))) then ((impl_endsF n ((x0.Links.drop ((0 : Int)).toNat).take (((y1 : Int)).toNat - ((0 : Int)).toNat)) v3.A v3.P).bind fun r7 => (bif r7 then (some (Sum.inr false)) else (bif (decide ((0 : Int) ≤ 0) && (decide ((0 : Int) ≤ y1) && decide ((y1 : Int) ≤ (x0.Links.length : Int)))) then ((impl_endsF n ((x0.Links.drop ((0 : Int)).toNat).take (((y1 : Int)).toNat - ((0 : Int)).toNat)) v3.B v3.Q).bind fun r9 => (bif r9 then (some (Sum.inr false)) else (impl_linksOk_L2 n mo2 x0 (IntKind.wrap .i64 (y1 + 1))))) else none))) else none))))))))) else (some (Sum.inl ())))
def impl_linksOkF (n : Nat) (x0 : Net) : Option (Bool) :=
  ((impl_linksOk_L2 n n x0 0).bind fun o => match o with | .inl _ => (impl_linksOk_J1 n) | .inr r => some r)
noncomputable abbrev G170 (k : Nat) := Rg Tryz.f170 k
theorem impl_linksOk (n : Nat) (x0 : Net) (r : Bool) (H : impl_linksOkF n x0 = some r) : LCall Tryz.prog 170 [.val true (CV.frzRow (Net.row x0))] [.val false [.lit (.bool r)]] [] := by
 refine LCall.of_body tOk Tryz.func170 rfl (c := (.seq (G170 0) (.seq (.seq (G170 1) (.block 0 (.loop (.seq (G170 2) (.seq (.cond (.tmp 13) .skip (.exit 0)) (.seq (.block 1 (.seq (G170 3) (.seq (G170 4) (.seq (G170 5) (.seq (.seq (G170 6) (.cond (.tmp 58) (.seq (G170 7) .ret) .skip)) (.seq (Rd Tryz.f170 8) (.cond (.tmp 78) (.seq (G170 9) .ret) .skip))))))) (G170 10))))))) (.seq (G170 11) .ret)))) kr (Nat.le_of_ble_eq_true kr) 0 (rs := [.tmp 2]) rfl [] .nil [(false,[.lit (.bool r)])] [] [] fun cx => ?_
 show Tr _ _ _ ⟨80,0,[sV 0 (CV.frzRow (Net.row x0))],[]⟩ _
 unfold impl_linksOkF at H
 refine tG 2 2 2 kr kr ?_
 refine tS ?_
 refine rU 2 kr ?_
 refine lL 26 3 126 10 11 none ⟨(.slot 10),[],0,false,4,(CV.frzEs (x0.Links.map Link.row))⟩ (x0.Links).length _ kr kr kr kr kr (frz_len _ _) rfl ?_
 refine uD 1 7170 2 kr kr ?_
 obtain ⟨o2,eo2,Ho2⟩ := bind_some H
 clear H
 refine Tr.mid (ι := Unit) (fun v => ⟨80,0,[],[]⟩) (fun v => impl_linksOk_J1 n = some r) ?_ ?_
 ·refine tB ?_
  refine Tr.loop (ι := Nat × (Int)) (fun v => ⟨80,0,[sI 12 v.2,sI 11 (x0.Links.length : Int),sC 10 (cF 4 x0.Links Link.row),sA 1 1 3 0],[(1,(CV.frzRow (Net.row x0)))]⟩) (fun v => impl_linksOk_L2 n v.1 x0 v.2 = some o2) (fun v => v.1) (n,0) eo2 (St.sub_of [12,11,10,1] [1] kr) ?_
  rintro ⟨mo2,y1⟩ H
  have H : impl_linksOk_L2 n mo2 x0 y1 = some o2 := H
  obtain _ | mo2 := mo2
  ·cases (show (none : Option _) = some o2 from H)
  rw [impl_linksOk_L2] at H
  refine tG 1 15362 2 kr kr ?_
  refine tS ?_
  obtain ⟨h1,H⟩ | ⟨h1,H⟩ := bC H
  ·refine tF h1 kr ?_
   refine Tr.exit ?_
   refine And.intro (fun _ => ?_) (fun h => absurd rfl h)
   obtain rfl := si H
   have H := Ho2
   dsimp only at H
   exact jn () H (sB_ [] [] kr)
  refine tT h1 kr ?_
  refine tK ?_
  refine tS ?_
  refine tB ?_
  refine rU 1 kr ?_
  obtain ⟨v3,ev3,H⟩ := bind_some H
  refine lI 26 0 10 12 15 none ⟨(.slot 10),[],0,false,4,(CV.frzEs (x0.Links.map Link.row))⟩ y1 (Link.row v3) _ kr kr kr kr rfl (idx_isF ev3) rfl ?_
  refine uD 4 7194 18 kr kr ?_
  refine rU 5 kr ?_
  obtain ⟨r4,er4,H⟩ := bind_some H
  refine lV [.rd,.rd,.rd] [] (impl_portAt n x0 v3.A v3.P r4 er4) kr kr kr kr (.inl rfl) ?_
  refine LAt.movT tOk (ty := 202) (t := 23) (d := 17) (g := none) [(true,(Pt.row r4.1)),(false,[cB r4.2])] _ kr (.inl rfl) kr kr kr kr rfl ?_
  refine uD 5 7290 50 kr kr ?_
  refine rU 5 kr ?_
  obtain ⟨r5,er5,H⟩ := bind_some H
  refine lV [.rd,.rd,.rd] [] (impl_portAt n x0 v3.B v3.Q r5 er5) kr kr kr kr (.inl rfl) ?_
  refine LAt.movT tOk (ty := 202) (t := 32) (d := 26) (g := none) [(true,(Pt.row r5.1)),(false,[cB r5.2])] _ kr (.inl rfl) kr kr kr kr rfl ?_
  refine uD 5 7674 178 kr kr ?_
  refine tS ?_
  refine rU 3 kr ?_
  refine lT ⟨80,0,[sB 37 (decide (y1 ≥ 9)),sB 36 (decide (y1 ≥ 9)),sI 35 y1,sB 8 r5.2,sA 7 7 8 0,sB 6 r4.2,sA 5 5 8 0,sI 3 y1,sA 4 4 4 0,sI 12 y1,sI 11 (x0.Links.length : Int),sC 10 (cF 4 x0.Links Link.row),sA 1 1 3 0],[(7,(Pt.row r5.1)),(5,(Pt.row r4.1)),(4,(Link.row v3)),(1,(CV.frzRow (Net.row x0)))]⟩ kr ?_
  cases h2 : (decide (y1 ≥ 9))
  ·have H := bifF h2 H
   refine lU 4 kr ?_
   refine lT ⟨80,0,[sB 41 (!r4.2),sB 40 (!r4.2),sB 39 (!r4.2),sB 38 r4.2,sB 37 false,sB 36 false,sI 35 y1,sB 8 r5.2,sA 7 7 8 0,sB 6 r4.2,sA 5 5 8 0,sI 3 y1,sA 4 4 4 0,sI 12 y1,sI 11 (x0.Links.length : Int),sC 10 (cF 4 x0.Links Link.row),sA 1 1 3 0],[(7,(Pt.row r5.1)),(5,(Pt.row r4.1)),(4,(Link.row v3)),(1,(CV.frzRow (Net.row x0)))]⟩ kr ?_
   cases h3 : (!r4.2)
   ·have H := bifF h3 H
    refine lU 4 kr ?_
    refine lT ⟨80,0,[sB 45 (!r5.2),sB 44 (!r5.2),sB 43 (!r5.2),sB 42 r5.2,sB 41 false,sB 40 false,sB 39 false,sB 38 r4.2,sB 37 false,sB 36 false,sI 35 y1,sB 8 r5.2,sA 7 7 8 0,sB 6 r4.2,sA 5 5 8 0,sI 3 y1,sA 4 4 4 0,sI 12 y1,sI 11 (x0.Links.length : Int),sC 10 (cF 4 x0.Links Link.row),sA 1 1 3 0],[(7,(Pt.row r5.1)),(5,(Pt.row r4.1)),(4,(Link.row v3)),(1,(CV.frzRow (Net.row x0)))]⟩ kr ?_
    cases h4 : (!r5.2)
    ·have H := bifF h4 H
     refine lU 7 kr ?_
     refine lT ⟨80,0,[sB 52 (v3.A == v3.B),sB 51 (v3.A == v3.B),sB 50 (v3.A == v3.B),sI 49 v3.B,sA 48 4 4 2,sI 47 v3.A,sA 46 4 4 0,sB 45 false,sB 44 false,sB 43 false,sB 42 r5.2,sB 41 false,sB 40 false,sB 39 false,sB 38 r4.2,sB 37 false,sB 36 false,sI 35 y1,sB 8 r5.2,sA 7 7 8 0,sB 6 r4.2,sA 5 5 8 0,sI 3 y1,sA 4 4 4 0,sI 12 y1,sI 11 (x0.Links.length : Int),sC 10 (cF 4 x0.Links Link.row),sA 1 1 3 0],[(7,(Pt.row r5.1)),(5,(Pt.row r4.1)),(4,(Link.row v3)),(1,(CV.frzRow (Net.row x0)))]⟩ kr ?_
     cases h5 : (v3.A == v3.B)
     ·have H := bifF h5 H
      refine uD 6 0x400000000001c1a 18 kr kr ?_
      obtain ⟨h6,H⟩ | ⟨h6,H⟩ := bC H
      ·refine tF h6 kr ?_
       refine tK ?_
       obtain ⟨hg6,H⟩ := guard_some H
       obtain ⟨r7,er7,H⟩ := bind_some H
       refine tO ⟨80,0,[sB 58 (!(r4.1.Up == r5.1.Up)),sI 3 y1,sA 4 4 4 0,sI 12 y1,sI 11 (x0.Links.length : Int),sC 10 (cF 4 x0.Links Link.row),sA 1 1 3 0],[(4,(Link.row v3)),(1,(CV.frzRow (Net.row x0)))]⟩ kr ?_
       cases h7 : r7
       ·have H := bifF h7 H
        obtain ⟨hg8,H⟩ := guard_some H
        obtain ⟨r9,er9,H⟩ := bind_some H
        refine Tr.draws mixed 20 kr ⟨80,0,[sB 78 r9,sI 12 y1,sI 11 (x0.Links.length : Int),sC 10 (cF 4 x0.Links Link.row),sA 1 1 3 0],[(1,(CV.frzRow (Net.row x0)))]⟩ (fun cx => ?_) ?_
        ·refine aU [(0,[]),(1,[3,8,13,18]),(2,[]),(4,[]),(5,[8,13,18]),(6,[]),(7,[8,13,18])] 13 [⟨[8,13,18],3,65,66⟩,⟨[8,13,18],3,63,64⟩,⟨[3,8,13,18],26,59,60⟩] [7,6,5,4,2,1,0] rfl kr (fun cx => ?_)
         refine b1 3 kr kr ?_
         refine LAt.cutG tOk (t := 26) (ty := 26) (e := 126) (x := (.tmp 60)) (lo := none) (hi := (some (.tmp 61))) (d := 62) (g := none) (tI 126) Link.row x0.Links ⟨(.box 1),[(0,0)],1,false,4,(CV.frzEs (x0.Links.map Link.row))⟩ 0 y1 kr kr kr kr kr kr rfl kr rfl kr kr hg6 ?_
         refine lF kr kr kr ?_
         refine b1 8 kr kr ?_
         refine lV [.rd,.rd,.rd] [] (impl_ends n ((x0.Links.drop ((0 : Int)).toNat).take (((y1 : Int)).toNat - ((0 : Int)).toNat)) v3.A v3.P r7 er7) kr kr kr kr (.inl rfl) ?_
         refine lF kr kr kr ?_
         refine aU [(9,[])] 10 [⟨[8,13,18],3,65,66⟩,⟨[8,13,18],3,63,64⟩,⟨[3,8,13,18],26,59,60⟩] [9,8,3,7,6,5,4,2,1,0] rfl kr (fun cx => ?_)
         refine aT ⟨80,0,[sB 68 r7,sB 67 r7,sC 62 (cF 4 ((x0.Links.drop ((0 : Int)).toNat).take (((y1 : Int)).toNat - ((0 : Int)).toNat)) Link.row),sI 66 v3.P,sA 65 4 4 1,sI 64 v3.A,sA 63 4 4 0,sI 61 y1,sR 60 1 3 1 1 false,sA 59 1 3 1,sB 58 (!(r4.1.Up == r5.1.Up)),sI 3 y1,sA 4 4 4 0,sI 12 y1,sI 11 (x0.Links.length : Int),sC 10 (cF 4 x0.Links Link.row),sA 1 1 3 0],[(4,(Link.row v3)),(1,(CV.frzRow (Net.row x0)))]⟩ kr ?_
         rw [h7]
         refine aU [(10,[]),(11,[13,18]),(12,[]),(14,[]),(15,[18]),(16,[]),(17,[18])] 3 [⟨[18],3,75,76⟩,⟨[18],3,73,74⟩,⟨[13,18],26,69,70⟩,⟨[8,13,18],3,65,66⟩,⟨[8,13,18],3,63,64⟩,⟨[3,8,13,18],26,59,60⟩] [17,16,15,14,12,11,10,9,8,3,7,6,5,4,2,1,0] rfl kr (fun cx => ?_)
         refine b1 13 kr kr ?_
         refine LAt.cutG tOk (t := 26) (ty := 26) (e := 126) (x := (.tmp 70)) (lo := none) (hi := (some (.tmp 71))) (d := 72) (g := (some (9,false))) (tI 126) Link.row x0.Links ⟨(.box 1),[(0,0)],1,false,4,(CV.frzEs (x0.Links.map Link.row))⟩ 0 y1 kr kr kr kr kr kr rfl kr rfl kr kr hg8 ?_
         refine lF kr kr kr ?_
         refine b1 18 kr kr ?_
         refine lV [.rd,.rd,.rd] [] (impl_ends n ((x0.Links.drop ((0 : Int)).toNat).take (((y1 : Int)).toNat - ((0 : Int)).toNat)) v3.B v3.Q r9 er9) kr kr kr kr (.inl rfl) ?_
         refine lF kr kr kr ?_
         refine aU [(19,[])] 0 [⟨[18],3,75,76⟩,⟨[18],3,73,74⟩,⟨[13,18],26,69,70⟩,⟨[8,13,18],3,65,66⟩,⟨[8,13,18],3,63,64⟩,⟨[3,8,13,18],26,59,60⟩] [19,18,13,17,16,15,14,12,11,10,9,8,3,7,6,5,4,2,1,0] rfl kr (fun cx => ?_)
         exact AT.done [78,12,11,10,1] [1] _ kr kr rfl
        cases h8 : r9
        ·have H := bifF h8 H
         refine tf kr ?_
         refine tK ?_
         refine tE 2 7170 2 kr kr ?_
         exact jn (mo2,(w6 (y1 + 1))) H (sM mo2 [12,11,10,1] [1] kr)
        have H := bifT h8 H
        refine tt kr ?_
        refine tG 1 4 0 kr kr ?_
        refine te ?_
        obtain rfl := si H
        have H := Ho2
        dsimp only at H
        obtain rfl := si H
        exact fO [(false,[cB false])] kr rfl rfl
       have H := bifT h7 H
       refine Tr.draws mixed 20 kr ⟨80,0,[sB 78 true,sI 12 y1,sI 11 (x0.Links.length : Int),sC 10 (cF 4 x0.Links Link.row),sA 1 1 3 0],[(1,(CV.frzRow (Net.row x0)))]⟩ (fun cx => ?_) ?_
       ·refine aU [(0,[]),(1,[3,8]),(2,[]),(4,[]),(5,[8]),(6,[]),(7,[8])] 13 [⟨[8],3,65,66⟩,⟨[8],3,63,64⟩,⟨[3,8],26,59,60⟩] [7,6,5,4,2,1,0] rfl kr (fun cx => ?_)
        refine b1 3 kr kr ?_
        refine LAt.cutG tOk (t := 26) (ty := 26) (e := 126) (x := (.tmp 60)) (lo := none) (hi := (some (.tmp 61))) (d := 62) (g := none) (tI 126) Link.row x0.Links ⟨(.box 1),[(0,0)],1,false,4,(CV.frzEs (x0.Links.map Link.row))⟩ 0 y1 kr kr kr kr kr kr rfl kr rfl kr kr hg6 ?_
        refine lF kr kr kr ?_
        refine b1 8 kr kr ?_
        refine lV [.rd,.rd,.rd] [] (impl_ends n ((x0.Links.drop ((0 : Int)).toNat).take (((y1 : Int)).toNat - ((0 : Int)).toNat)) v3.A v3.P r7 er7) kr kr kr kr (.inl rfl) ?_
        refine lF kr kr kr ?_
        refine aU [(9,[])] 10 [⟨[8],3,65,66⟩,⟨[8],3,63,64⟩,⟨[3,8],26,59,60⟩] [9,8,3,7,6,5,4,2,1,0] rfl kr (fun cx => ?_)
        refine aT ⟨80,0,[sB 68 r7,sB 67 r7,sC 62 (cF 4 ((x0.Links.drop ((0 : Int)).toNat).take (((y1 : Int)).toNat - ((0 : Int)).toNat)) Link.row),sI 66 v3.P,sA 65 4 4 1,sI 64 v3.A,sA 63 4 4 0,sI 61 y1,sR 60 1 3 1 1 false,sA 59 1 3 1,sB 58 (!(r4.1.Up == r5.1.Up)),sI 3 y1,sA 4 4 4 0,sI 12 y1,sI 11 (x0.Links.length : Int),sC 10 (cF 4 x0.Links Link.row),sA 1 1 3 0],[(4,(Link.row v3)),(1,(CV.frzRow (Net.row x0)))]⟩ kr ?_
        rw [h7]
        refine aU [(10,[]),(11,[]),(12,[]),(13,[]),(14,[]),(15,[]),(16,[]),(17,[]),(18,[]),(19,[])] 0 [⟨[8],3,65,66⟩,⟨[8],3,63,64⟩,⟨[3,8],26,59,60⟩] [19,18,17,16,15,14,13,12,11,10,9,8,3,7,6,5,4,2,1,0] rfl kr (fun cx => ?_)
        exact AT.done [78,12,11,10,1] [1] _ kr kr rfl
       refine tt kr ?_
       refine tG 1 4 0 kr kr ?_
       refine te ?_
       obtain rfl := si H
       have H := Ho2
       dsimp only at H
       obtain rfl := si H
       exact fO [(false,[cB false])] kr rfl rfl
      refine tT h6 kr ?_
      refine tG 1 4 0 kr kr ?_
      refine te ?_
      obtain rfl := si H
      have H := Ho2
      dsimp only at H
      obtain rfl := si H
      exact fO [(false,[cB false])] kr rfl rfl
     have H := bifT h5 H
     refine uD 6 0x400000000001c1a 18 kr kr ?_
     refine tt kr ?_
     refine tG 1 4 0 kr kr ?_
     refine te ?_
     obtain rfl := si H
     have H := Ho2
     dsimp only at H
     obtain rfl := si H
     exact fO [(false,[cB false])] kr rfl rfl
    have H := bifT h4 H
    refine uD 13 0x400000000001c1a 18 kr kr ?_
    refine tt kr ?_
    refine tG 1 4 0 kr kr ?_
    refine te ?_
    obtain rfl := si H
    have H := Ho2
    dsimp only at H
    obtain rfl := si H
    exact fO [(false,[cB false])] kr rfl rfl
   have H := bifT h3 H
   refine uD 17 0x400000000001c1a 18 kr kr ?_
   refine tt kr ?_
   refine tG 1 4 0 kr kr ?_
   refine te ?_
   obtain rfl := si H
   have H := Ho2
   dsimp only at H
   obtain rfl := si H
   exact fO [(false,[cB false])] kr rfl rfl
  have H := bifT h2 H
  refine uD 21 0x400000000001c1a 18 kr kr ?_
  refine tt kr ?_
  refine tG 1 4 0 kr kr ?_
  refine te ?_
  obtain rfl := si H
  have H := Ho2
  dsimp only at H
  obtain rfl := si H
  exact fO [(false,[cB false])] kr rfl rfl
 rintro _ H
 have H : (impl_linksOk_J1 n) = some r := H
 unfold impl_linksOk_J1 at H
 refine tG 1 4 0 kr kr ?_
 exact te (by obtain rfl := si H; exact fO [(false,[cB true])] kr rfl rfl)
end Go.Proofs.YtibocmoaaahjfaaGreat.Tw
