import Derived.Test.YtcegokjpmppdbaaProg
import Derived.Test.YtcegokjpmppdbaaTlRule
import Derived.Test.YtcegokjpmppdbaaTlU10
import Derived.Test.YtcegokjpmppdbaaTwNB0
import Derived.WalkKit
set_option linter.unusedVariables false
set_option linter.unusedSimpArgs false
set_option maxRecDepth 100000
set_option maxHeartbeats 1000000
namespace Go.Proofs.Ytcegokjpmppdbaa.Tw
open Go Go.TL Go.Proofs
def impl_VtabOk_J2 (n : Nat) : Option (Bool) :=
  (some true)
def impl_VtabOk_L3 (n : Nat) : Nat → Vtab → Int → Option ((Unit) ⊕ (Bool))
  | 0,_,_ => none
  | mo4 + 1,x0,y3 => (bif (decide (y3 < (x0.Pvid.length : Int))) then ((idx x0.Pvid y3).bind fun v5 => ((impl_RowAtF n x0 v5).bind fun r6 => (bif (decide (r6 < 0)) then (some (Sum.inr false)) else (impl_VtabOk_L3 n mo4 x0 (IntKind.wrap .i64 (y3 + 1)))))) else (some (Sum.inl ())))
def impl_VtabOk_J1 (n : Nat) (x0 : Vtab) : Option (Bool) :=
  ((impl_VtabOk_L3 n n x0 0).bind fun o => match o with | .inl _ => (impl_VtabOk_J2 n) | .inr r => some r)
def impl_VtabOk_L4 (n : Nat) : Nat → Vtab → Int → Int → Option ((Unit) ⊕ (Bool))
  | 0,_,_,_ => none
  | mo7 + 1,x0,x1,y2 => (bif (decide (y2 < (x0.Rows.length : Int))) then ((idx x0.Rows y2).bind fun v8 => ((impl_inF n v8.Id 1 99).bind fun r9 => (bif (!r9) then (some (Sum.inr false)) else (bif (decide (y2 > 0)) then ((idx x0.Rows (IntKind.wrap .i64 (y2 - 1))).bind fun v12 => (bif (decide (v12.Id ≥ v8.Id)) then (some (Sum.inr false)) else ((impl_allPortsF n x1).bind fun r13 => ((impl_inF n v8.Members 0 r13).bind fun r14 => (bif (!r14) then (some (Sum.inr false)) else (bif ((IntKind.wrap .i64 (BitVec.ofInt (IntKind.bits .i64) v8.Bare &&& ~~~BitVec.ofInt (IntKind.bits .i64) v8.Members).toNat) != 0) then (some (Sum.inr false)) else (impl_VtabOk_L4 n mo7 x0 x1 (IntKind.wrap .i64 (y2 + 1))))))))) else ((impl_allPortsF n x1).bind fun r10 => ((impl_inF n v8.Members 0 r10).bind fun r11 => (bif (!r11) then (some (Sum.inr false)) else (bif ((IntKind.wrap .i64 (BitVec.ofInt (IntKind.bits .i64) v8.Bare &&& ~~~BitVec.ofInt (IntKind.bits .i64) v8.Members).toNat) != 0) then (some (Sum.inr false)) else (impl_VtabOk_L4 n mo7 x0 x1 (IntKind.wrap .i64 (y2 + 1))))))))))) else (some (Sum.inl ())))
def impl_VtabOkF (n : Nat) (x0 : Vtab) (x1 : Int) : Option (Bool) :=
  ((impl_inF n x1 1 6).bind fun r1 => (bif (!r1) then (some false) else (bif ((x0.Pvid.length : Int) != x1) then (some false) else (bif (decide ((x0.Rows.length : Int) > 6)) then (some false) else ((impl_VtabOk_L4 n n x0 x1 0).bind fun o => match o with | .inl _ => (impl_VtabOk_J1 n x0) | .inr r => some r)))))
def T40x6 : Tab := ⟨36,[0,1,2,4,12,16,48,80,128,384,128,1152,2688,4224,8320,128,32896,82048,131216,262160,524416,1048576,3145728,1048576,9437184,22020096,34603008,68157440,167772160,268435456,805306368,268435456,2415919104,5637144576,8858370048,17448304640],[0,1,2,4,8,16,48,80,128,384,128,1152,2688,4224,8320,128,32896,82048,131216,262160,524288,1048576,3145728,1048576,9437184,22020096,34603008,68157440,134217728,268435456,805306368,268435456,2415919104,5637144576,8858370048,17448304640],[0,1,3,7,15,31,63,127,255,511,255,1279,4095,8191,16383,255,33023,131071,262143,524287,1048575,2097151,4194303,2097151,10485759,33554431,67108863,134217727,268435455,536870911,1073741823,536870911,2684354559,8589934591,17179869183,34359738367]⟩
noncomputable abbrev G40 (k : Nat) := Rg Try.f40 k
noncomputable abbrev D40 (k : Nat) := Rd Try.f40 k
theorem K40x6 : tabOk (rg Try.f40 6) T40x6 = true := kr
theorem impl_VtabOk_D1 (n : Nat) (v8 : Vrow) (r9 : Bool) (y2 : Int) (x0 : Vtab) (x1 : Int) (r10 : Int) (r11 : Bool) (h7 : (!r9) = false) (h9 : (!r11) = false) (er9 : (impl_inF n v8.Id 1 99) = some r9) (er10 : (impl_allPortsF n x1) = some r10) (er11 : (impl_inF n v8.Members 0 r10) = some r11) (h8 : (decide (y2 > 0)) = false) (cx : Cx) : AT Try.prog cx (rg Try.f40 6) [] 36 [] ⟨82,0,[sI 5 y2,sA 6 6 3 0,sI 28 y2,sI 27 (x0.Rows.length : Int),sC 26 (cF 3 x0.Rows Vrow.row),sA 2 2 2 0,sI 1 x1],[(6,(Vrow.row v8)),(2,(CV.frzRow (Vtab.row x0)))]⟩ (fun s => s = ⟨82,0,[sB 68 ((IntKind.wrap .i64 (BitVec.ofInt (IntKind.bits .i64) v8.Bare &&& ~~~BitVec.ofInt (IntKind.bits .i64) v8.Members).toNat) != 0),sI 28 y2,sI 27 (x0.Rows.length : Int),sC 26 (cF 3 x0.Rows Vrow.row),sA 2 2 2 0,sI 1 x1],[(2,(CV.frzRow (Vtab.row x0)))]⟩) := by
 refine mU tOk K40x6 [(0,[]),(1,[2,24,25])] 34 [⟨[2,24,25],3,33,34⟩] [1,0] rfl kr (fun cx => ?_)
 refine mB1 tOk K40x6 2 kr kr ?_
 refine lV tOk [.rd,.rd,.rd] [] (impl_in n v8.Id 1 99 r9 er9) kr kr kr kr (.inl rfl) ?_
 refine lF kr kr kr ?_
 refine mU tOk K40x6 [(3,[]),(4,[])] 31 [⟨[2,24,25],3,33,34⟩] [4,3,2,1,0] rfl kr (fun cx => ?_)
 refine aT ⟨82,0,[sB 37 (!r9),sB 36 (!r9),sB 35 r9,sI 34 v8.Id,sA 33 6 3 0,sI 5 y2,sA 6 6 3 0,sI 28 y2,sI 27 (x0.Rows.length : Int),sC 26 (cF 3 x0.Rows Vrow.row),sA 2 2 2 0,sI 1 x1],[(6,(Vrow.row v8)),(2,(CV.frzRow (Vtab.row x0)))]⟩ kr ?_
 rw [h7]
 refine mU tOk K40x6 [(5,[]),(6,[]),(7,[])] 28 [⟨[2,24,25],3,33,34⟩] [7,6,5,4,3,2,1,0] rfl kr (fun cx => ?_)
 refine aT ⟨82,0,[sB 40 (decide (y2 > 0)),sB 39 (decide (y2 > 0)),sI 38 y2,sB 37 false,sB 36 false,sB 35 r9,sI 34 v8.Id,sA 33 6 3 0,sI 5 y2,sA 6 6 3 0,sI 28 y2,sI 27 (x0.Rows.length : Int),sC 26 (cF 3 x0.Rows Vrow.row),sA 2 2 2 0,sI 1 x1],[(6,(Vrow.row v8)),(2,(CV.frzRow (Vtab.row x0)))]⟩ kr ?_
 rw [h8]
 refine mU tOk K40x6 [(8,[]),(9,[]),(10,[]),(11,[]),(12,[]),(13,[]),(14,[]),(15,[]),(16,[]),(17,[]),(18,[]),(19,[]),(20,[]),(21,[]),(22,[25]),(23,[])] 12 [⟨[25],3,54,55⟩,⟨[2,24,25],3,33,34⟩] [23,22,21,20,19,18,17,16,15,14,13,12,11,10,9,8,7,6,5,4,3,2,1,0] rfl kr (fun cx => ?_)
 refine mB1 tOk K40x6 24 kr kr ?_
 refine lV tOk [.rd] [] (impl_allPorts n x1 r10 er10) kr kr kr kr (.inl rfl) ?_
 refine lF kr kr kr ?_
 refine mB1 tOk K40x6 25 kr kr ?_
 refine lV tOk [.rd,.rd,.rd] [] (impl_in n v8.Members 0 r10 r11 er11) kr kr kr kr (.inl rfl) ?_
 refine lF kr kr kr ?_
 refine mU tOk K40x6 [(26,[]),(27,[]),(28,[])] 7 [⟨[25],3,54,55⟩,⟨[2,24,25],3,33,34⟩] [28,27,26,25,24,23,22,21,20,19,18,17,16,15,14,13,12,11,10,9,8,7,6,5,4,3,2,1,0] rfl kr (fun cx => ?_)
 refine aT ⟨82,0,[sB 61 (!r11),sB 60 (!r11),sB 59 (!r11),sB 58 r11,sI 57 r10,sI 56 x1,sI 55 v8.Members,sA 54 6 3 1,sB 53 false,sB 52 false,sB 51 false,(50,.tup []),(49,.tup []),(48,.tup []),(47,.tup []),(46,.tup []),(45,.tup []),(44,.tup []),(43,.tup []),(42,.tup []),(41,.tup []),sB 40 false,sB 39 false,sI 38 y2,sB 37 false,sB 36 false,sB 35 r9,sI 34 v8.Id,sA 33 6 3 0,sI 5 y2,sA 6 6 3 0,sI 28 y2,sI 27 (x0.Rows.length : Int),sC 26 (cF 3 x0.Rows Vrow.row),sA 2 2 2 0,sI 1 x1],[(6,(Vrow.row v8)),(2,(CV.frzRow (Vtab.row x0)))]⟩ kr ?_
 rw [h9]
 refine mU tOk K40x6 [(29,[]),(30,[]),(31,[]),(32,[]),(33,[]),(34,[]),(35,[])] 0 [⟨[],3,64,65⟩,⟨[],3,62,63⟩,⟨[25],3,54,55⟩,⟨[2,24,25],3,33,34⟩] [35,34,33,32,31,30,29,28,27,26,25,24,23,22,21,20,19,18,17,16,15,14,13,12,11,10,9,8,7,6,5,4,3,2,1,0] rfl kr (fun cx => ?_)
 exact mD K40x6 [68,28,27,26,2,1] [2] _ kr kr rfl
theorem impl_VtabOk_D2 (n : Nat) (v8 : Vrow) (r9 : Bool) (y2 : Int) (x0 : Vtab) (x1 : Int) (r10 : Int) (r11 : Bool) (h7 : (!r9) = false) (h9 : (!r11) = true) (er9 : (impl_inF n v8.Id 1 99) = some r9) (er10 : (impl_allPortsF n x1) = some r10) (er11 : (impl_inF n v8.Members 0 r10) = some r11) (h8 : (decide (y2 > 0)) = false) (cx : Cx) : AT Try.prog cx (rg Try.f40 6) [] 36 [] ⟨82,0,[sI 5 y2,sA 6 6 3 0,sI 28 y2,sI 27 (x0.Rows.length : Int),sC 26 (cF 3 x0.Rows Vrow.row),sA 2 2 2 0,sI 1 x1],[(6,(Vrow.row v8)),(2,(CV.frzRow (Vtab.row x0)))]⟩ (fun s => s = ⟨82,0,[sB 68 true,sI 28 y2,sI 27 (x0.Rows.length : Int),sC 26 (cF 3 x0.Rows Vrow.row),sA 2 2 2 0,sI 1 x1],[(2,(CV.frzRow (Vtab.row x0)))]⟩) := by
 refine mU tOk K40x6 [(0,[]),(1,[2,24,25])] 34 [⟨[2,24,25],3,33,34⟩] [1,0] rfl kr (fun cx => ?_)
 refine mB1 tOk K40x6 2 kr kr ?_
 refine lV tOk [.rd,.rd,.rd] [] (impl_in n v8.Id 1 99 r9 er9) kr kr kr kr (.inl rfl) ?_
 refine lF kr kr kr ?_
 refine mU tOk K40x6 [(3,[]),(4,[])] 31 [⟨[2,24,25],3,33,34⟩] [4,3,2,1,0] rfl kr (fun cx => ?_)
 refine aT ⟨82,0,[sB 37 (!r9),sB 36 (!r9),sB 35 r9,sI 34 v8.Id,sA 33 6 3 0,sI 5 y2,sA 6 6 3 0,sI 28 y2,sI 27 (x0.Rows.length : Int),sC 26 (cF 3 x0.Rows Vrow.row),sA 2 2 2 0,sI 1 x1],[(6,(Vrow.row v8)),(2,(CV.frzRow (Vtab.row x0)))]⟩ kr ?_
 rw [h7]
 refine mU tOk K40x6 [(5,[]),(6,[]),(7,[])] 28 [⟨[2,24,25],3,33,34⟩] [7,6,5,4,3,2,1,0] rfl kr (fun cx => ?_)
 refine aT ⟨82,0,[sB 40 (decide (y2 > 0)),sB 39 (decide (y2 > 0)),sI 38 y2,sB 37 false,sB 36 false,sB 35 r9,sI 34 v8.Id,sA 33 6 3 0,sI 5 y2,sA 6 6 3 0,sI 28 y2,sI 27 (x0.Rows.length : Int),sC 26 (cF 3 x0.Rows Vrow.row),sA 2 2 2 0,sI 1 x1],[(6,(Vrow.row v8)),(2,(CV.frzRow (Vtab.row x0)))]⟩ kr ?_
 rw [h8]
 refine mU tOk K40x6 [(8,[]),(9,[]),(10,[]),(11,[]),(12,[]),(13,[]),(14,[]),(15,[]),(16,[]),(17,[]),(18,[]),(19,[]),(20,[]),(21,[]),(22,[25]),(23,[])] 12 [⟨[25],3,54,55⟩,⟨[2,24,25],3,33,34⟩] [23,22,21,20,19,18,17,16,15,14,13,12,11,10,9,8,7,6,5,4,3,2,1,0] rfl kr (fun cx => ?_)
 refine mB1 tOk K40x6 24 kr kr ?_
 refine lV tOk [.rd] [] (impl_allPorts n x1 r10 er10) kr kr kr kr (.inl rfl) ?_
 refine lF kr kr kr ?_
 refine mB1 tOk K40x6 25 kr kr ?_
 refine lV tOk [.rd,.rd,.rd] [] (impl_in n v8.Members 0 r10 r11 er11) kr kr kr kr (.inl rfl) ?_
 refine lF kr kr kr ?_
 refine mU tOk K40x6 [(26,[]),(27,[]),(28,[])] 7 [⟨[25],3,54,55⟩,⟨[2,24,25],3,33,34⟩] [28,27,26,25,24,23,22,21,20,19,18,17,16,15,14,13,12,11,10,9,8,7,6,5,4,3,2,1,0] rfl kr (fun cx => ?_)
 refine aT ⟨82,0,[sB 61 (!r11),sB 60 (!r11),sB 59 (!r11),sB 58 r11,sI 57 r10,sI 56 x1,sI 55 v8.Members,sA 54 6 3 1,sB 53 false,sB 52 false,sB 51 false,(50,.tup []),(49,.tup []),(48,.tup []),(47,.tup []),(46,.tup []),(45,.tup []),(44,.tup []),(43,.tup []),(42,.tup []),(41,.tup []),sB 40 false,sB 39 false,sI 38 y2,sB 37 false,sB 36 false,sB 35 r9,sI 34 v8.Id,sA 33 6 3 0,sI 5 y2,sA 6 6 3 0,sI 28 y2,sI 27 (x0.Rows.length : Int),sC 26 (cF 3 x0.Rows Vrow.row),sA 2 2 2 0,sI 1 x1],[(6,(Vrow.row v8)),(2,(CV.frzRow (Vtab.row x0)))]⟩ kr ?_
 rw [h9]
 refine mU tOk K40x6 [(29,[]),(30,[]),(31,[]),(32,[]),(33,[]),(34,[]),(35,[])] 0 [⟨[25],3,54,55⟩,⟨[2,24,25],3,33,34⟩] [35,34,33,32,31,30,29,28,27,26,25,24,23,22,21,20,19,18,17,16,15,14,13,12,11,10,9,8,7,6,5,4,3,2,1,0] rfl kr (fun cx => ?_)
 exact mD K40x6 [68,28,27,26,2,1] [2] _ kr kr rfl
theorem impl_VtabOk_D3 (n : Nat) (x1 : Int) (r13 : Int) (v8 : Vrow) (r14 : Bool) (v12 : Vrow) (y2 : Int) (r9 : Bool) (x0 : Vtab) (er13 : (impl_allPortsF n x1) = some r13) (er14 : (impl_inF n v8.Members 0 r13) = some r14) (h12 : (!r14) = false) (cx : Cx) : AT Try.prog cx (rg Try.f40 6) [⟨[24,25],3,48,49⟩,⟨[24,25],26,41,42⟩,⟨[2,24,25],3,33,34⟩] 15 [20,19,18,17,16,15,14,13,12,11,10,9,8,7,6,5,4,3,2,1,0] ⟨82,0,[sB 53 false,sB 52 false,sB 51 false,sB 50 false,sI 49 v8.Id,sA 48 6 3 0,sI 47 v12.Id,(46,.fad ((Vrow.row v12))),(45,.fad ((Vrow.row v12))),sI 44 (IntKind.wrap .i64 (y2 - 1)),sI 43 y2,sR 42 2 2 0 1 false,sA 41 2 2 0,sB 40 true,sB 39 true,sI 38 y2,sB 37 false,sB 36 false,sB 35 r9,sI 34 v8.Id,sA 33 6 3 0,sI 5 y2,sA 6 6 3 0,sI 28 y2,sI 27 (x0.Rows.length : Int),sC 26 (cF 3 x0.Rows Vrow.row),sA 2 2 2 0,sI 1 x1],[(6,(Vrow.row v8)),(2,(CV.frzRow (Vtab.row x0)))]⟩ (fun s => s = ⟨82,0,[sB 68 ((IntKind.wrap .i64 (BitVec.ofInt (IntKind.bits .i64) v8.Bare &&& ~~~BitVec.ofInt (IntKind.bits .i64) v8.Members).toNat) != 0),sI 28 y2,sI 27 (x0.Rows.length : Int),sC 26 (cF 3 x0.Rows Vrow.row),sA 2 2 2 0,sI 1 x1],[(2,(CV.frzRow (Vtab.row x0)))]⟩) := by
 refine mU tOk K40x6 [(21,[]),(22,[25]),(23,[])] 12 [⟨[25],3,54,55⟩,⟨[24,25],3,48,49⟩,⟨[24,25],26,41,42⟩,⟨[2,24,25],3,33,34⟩] [23,22,21,20,19,18,17,16,15,14,13,12,11,10,9,8,7,6,5,4,3,2,1,0] rfl kr (fun cx => ?_)
 refine mB1 tOk K40x6 24 kr kr ?_
 refine lV tOk [.rd] [] (impl_allPorts n x1 r13 er13) kr kr kr kr (.inl rfl) ?_
 refine lF kr kr kr ?_
 refine mB1 tOk K40x6 25 kr kr ?_
 refine lV tOk [.rd,.rd,.rd] [] (impl_in n v8.Members 0 r13 r14 er14) kr kr kr kr (.inl rfl) ?_
 refine lF kr kr kr ?_
 refine mU tOk K40x6 [(26,[]),(27,[]),(28,[])] 7 [⟨[25],3,54,55⟩,⟨[24,25],3,48,49⟩,⟨[24,25],26,41,42⟩,⟨[2,24,25],3,33,34⟩] [28,27,26,25,24,23,22,21,20,19,18,17,16,15,14,13,12,11,10,9,8,7,6,5,4,3,2,1,0] rfl kr (fun cx => ?_)
 refine aT ⟨82,0,[sB 61 (!r14),sB 60 (!r14),sB 59 (!r14),sB 58 r14,sI 57 r13,sI 56 x1,sI 55 v8.Members,sA 54 6 3 1,sB 53 false,sB 52 false,sB 51 false,sB 50 false,sI 49 v8.Id,sA 48 6 3 0,sI 47 v12.Id,(46,.fad ((Vrow.row v12))),(45,.fad ((Vrow.row v12))),sI 44 (IntKind.wrap .i64 (y2 - 1)),sI 43 y2,sR 42 2 2 0 1 false,sA 41 2 2 0,sB 40 true,sB 39 true,sI 38 y2,sB 37 false,sB 36 false,sB 35 r9,sI 34 v8.Id,sA 33 6 3 0,sI 5 y2,sA 6 6 3 0,sI 28 y2,sI 27 (x0.Rows.length : Int),sC 26 (cF 3 x0.Rows Vrow.row),sA 2 2 2 0,sI 1 x1],[(6,(Vrow.row v8)),(2,(CV.frzRow (Vtab.row x0)))]⟩ kr ?_
 rw [h12]
 refine mU tOk K40x6 [(29,[]),(30,[]),(31,[]),(32,[]),(33,[]),(34,[]),(35,[])] 0 [⟨[],3,64,65⟩,⟨[],3,62,63⟩,⟨[25],3,54,55⟩,⟨[24,25],3,48,49⟩,⟨[24,25],26,41,42⟩,⟨[2,24,25],3,33,34⟩] [35,34,33,32,31,30,29,28,27,26,25,24,23,22,21,20,19,18,17,16,15,14,13,12,11,10,9,8,7,6,5,4,3,2,1,0] rfl kr (fun cx => ?_)
 exact mD K40x6 [68,28,27,26,2,1] [2] _ kr kr rfl
theorem impl_VtabOk_D4 (n : Nat) (v8 : Vrow) (r9 : Bool) (y2 : Int) (x0 : Vtab) (x1 : Int) (v12 : Vrow) (r13 : Int) (r14 : Bool) (h7 : (!r9) = false) (er9 : (impl_inF n v8.Id 1 99) = some r9) (h8 : (decide (y2 > 0)) = true) (ev12 : (idx x0.Rows (IntKind.wrap .i64 (y2 - 1))) = some v12) (er13 : (impl_allPortsF n x1) = some r13) (er14 : (impl_inF n v8.Members 0 r13) = some r14) (h11 : (decide (v12.Id ≥ v8.Id)) = false) (h12 : (!r14) = false) (cx : Cx) : AT Try.prog cx (rg Try.f40 6) [] 36 [] ⟨82,0,[sI 5 y2,sA 6 6 3 0,sI 28 y2,sI 27 (x0.Rows.length : Int),sC 26 (cF 3 x0.Rows Vrow.row),sA 2 2 2 0,sI 1 x1],[(6,(Vrow.row v8)),(2,(CV.frzRow (Vtab.row x0)))]⟩ (fun s => s = ⟨82,0,[sB 68 ((IntKind.wrap .i64 (BitVec.ofInt (IntKind.bits .i64) v8.Bare &&& ~~~BitVec.ofInt (IntKind.bits .i64) v8.Members).toNat) != 0),sI 28 y2,sI 27 (x0.Rows.length : Int),sC 26 (cF 3 x0.Rows Vrow.row),sA 2 2 2 0,sI 1 x1],[(2,(CV.frzRow (Vtab.row x0)))]⟩) := by
 refine mU tOk K40x6 [(0,[]),(1,[2,24,25])] 34 [⟨[2,24,25],3,33,34⟩] [1,0] rfl kr (fun cx => ?_)
 refine mB1 tOk K40x6 2 kr kr ?_
 refine lV tOk [.rd,.rd,.rd] [] (impl_in n v8.Id 1 99 r9 er9) kr kr kr kr (.inl rfl) ?_
 refine lF kr kr kr ?_
 refine mU tOk K40x6 [(3,[]),(4,[])] 31 [⟨[2,24,25],3,33,34⟩] [4,3,2,1,0] rfl kr (fun cx => ?_)
 refine aT ⟨82,0,[sB 37 (!r9),sB 36 (!r9),sB 35 r9,sI 34 v8.Id,sA 33 6 3 0,sI 5 y2,sA 6 6 3 0,sI 28 y2,sI 27 (x0.Rows.length : Int),sC 26 (cF 3 x0.Rows Vrow.row),sA 2 2 2 0,sI 1 x1],[(6,(Vrow.row v8)),(2,(CV.frzRow (Vtab.row x0)))]⟩ kr ?_
 rw [h7]
 refine mU tOk K40x6 [(5,[]),(6,[]),(7,[])] 28 [⟨[2,24,25],3,33,34⟩] [7,6,5,4,3,2,1,0] rfl kr (fun cx => ?_)
 refine aT ⟨82,0,[sB 40 (decide (y2 > 0)),sB 39 (decide (y2 > 0)),sI 38 y2,sB 37 false,sB 36 false,sB 35 r9,sI 34 v8.Id,sA 33 6 3 0,sI 5 y2,sA 6 6 3 0,sI 28 y2,sI 27 (x0.Rows.length : Int),sC 26 (cF 3 x0.Rows Vrow.row),sA 2 2 2 0,sI 1 x1],[(6,(Vrow.row v8)),(2,(CV.frzRow (Vtab.row x0)))]⟩ kr ?_
 rw [h8]
 refine mU tOk K40x6 [(8,[]),(9,[24,25]),(10,[]),(11,[])] 24 [⟨[24,25],26,41,42⟩,⟨[2,24,25],3,33,34⟩] [11,10,9,8,7,6,5,4,3,2,1,0] rfl kr (fun cx => ?_)
 refine aI tOk 12 26 0 42 44 45 (some (7,true)) ⟨(.box 2),[(0,0)],0,false,3,(CV.frzEs (x0.Rows.map Vrow.row))⟩ (IntKind.wrap .i64 (y2 - 1)) (Vrow.row v12) _ kr (oM K40x6 kr) (dM K40x6 kr) kr kr kr rfl (idx_isF ev12) rfl (fun cx => ?_)
 refine mU tOk K40x6 [(13,[]),(14,[]),(15,[]),(16,[24,25]),(17,[]),(18,[]),(19,[]),(20,[])] 15 [⟨[24,25],3,48,49⟩,⟨[24,25],26,41,42⟩,⟨[2,24,25],3,33,34⟩] [20,19,18,17,16,15,14,13,12,11,10,9,8,7,6,5,4,3,2,1,0] rfl kr (fun cx => ?_)
 refine aT ⟨82,0,[sB 53 (decide (v12.Id ≥ v8.Id)),sB 52 (decide (v12.Id ≥ v8.Id)),sB 51 (decide (v12.Id ≥ v8.Id)),sB 50 (decide (v12.Id ≥ v8.Id)),sI 49 v8.Id,sA 48 6 3 0,sI 47 v12.Id,(46,.fad ((Vrow.row v12))),(45,.fad ((Vrow.row v12))),sI 44 (IntKind.wrap .i64 (y2 - 1)),sI 43 y2,sR 42 2 2 0 1 false,sA 41 2 2 0,sB 40 true,sB 39 true,sI 38 y2,sB 37 false,sB 36 false,sB 35 r9,sI 34 v8.Id,sA 33 6 3 0,sI 5 y2,sA 6 6 3 0,sI 28 y2,sI 27 (x0.Rows.length : Int),sC 26 (cF 3 x0.Rows Vrow.row),sA 2 2 2 0,sI 1 x1],[(6,(Vrow.row v8)),(2,(CV.frzRow (Vtab.row x0)))]⟩ kr ?_
 rw [h11]
 refine aT ⟨82,0,[sB 53 false,sB 52 false,sB 51 false,sB 50 false,sI 49 v8.Id,sA 48 6 3 0,sI 47 v12.Id,(46,.fad ((Vrow.row v12))),(45,.fad ((Vrow.row v12))),sI 44 (IntKind.wrap .i64 (y2 - 1)),sI 43 y2,sR 42 2 2 0 1 false,sA 41 2 2 0,sB 40 true,sB 39 true,sI 38 y2,sB 37 false,sB 36 false,sB 35 r9,sI 34 v8.Id,sA 33 6 3 0,sI 5 y2,sA 6 6 3 0,sI 28 y2,sI 27 (x0.Rows.length : Int),sC 26 (cF 3 x0.Rows Vrow.row),sA 2 2 2 0,sI 1 x1],[(6,(Vrow.row v8)),(2,(CV.frzRow (Vtab.row x0)))]⟩ kr ?_
 exact impl_VtabOk_D3 n x1 r13 v8 r14 v12 y2 r9 x0 er13 er14 h12 cx
theorem impl_VtabOk_D5 (n : Nat) (x1 : Int) (r13 : Int) (v8 : Vrow) (r14 : Bool) (v12 : Vrow) (y2 : Int) (r9 : Bool) (x0 : Vtab) (er13 : (impl_allPortsF n x1) = some r13) (er14 : (impl_inF n v8.Members 0 r13) = some r14) (h12 : (!r14) = true) (cx : Cx) : AT Try.prog cx (rg Try.f40 6) [⟨[24,25],3,48,49⟩,⟨[24,25],26,41,42⟩,⟨[2,24,25],3,33,34⟩] 15 [20,19,18,17,16,15,14,13,12,11,10,9,8,7,6,5,4,3,2,1,0] ⟨82,0,[sB 53 false,sB 52 false,sB 51 false,sB 50 false,sI 49 v8.Id,sA 48 6 3 0,sI 47 v12.Id,(46,.fad ((Vrow.row v12))),(45,.fad ((Vrow.row v12))),sI 44 (IntKind.wrap .i64 (y2 - 1)),sI 43 y2,sR 42 2 2 0 1 false,sA 41 2 2 0,sB 40 true,sB 39 true,sI 38 y2,sB 37 false,sB 36 false,sB 35 r9,sI 34 v8.Id,sA 33 6 3 0,sI 5 y2,sA 6 6 3 0,sI 28 y2,sI 27 (x0.Rows.length : Int),sC 26 (cF 3 x0.Rows Vrow.row),sA 2 2 2 0,sI 1 x1],[(6,(Vrow.row v8)),(2,(CV.frzRow (Vtab.row x0)))]⟩ (fun s => s = ⟨82,0,[sB 68 true,sI 28 y2,sI 27 (x0.Rows.length : Int),sC 26 (cF 3 x0.Rows Vrow.row),sA 2 2 2 0,sI 1 x1],[(2,(CV.frzRow (Vtab.row x0)))]⟩) := by
 refine mU tOk K40x6 [(21,[]),(22,[25]),(23,[])] 12 [⟨[25],3,54,55⟩,⟨[24,25],3,48,49⟩,⟨[24,25],26,41,42⟩,⟨[2,24,25],3,33,34⟩] [23,22,21,20,19,18,17,16,15,14,13,12,11,10,9,8,7,6,5,4,3,2,1,0] rfl kr (fun cx => ?_)
 refine mB1 tOk K40x6 24 kr kr ?_
 refine lV tOk [.rd] [] (impl_allPorts n x1 r13 er13) kr kr kr kr (.inl rfl) ?_
 refine lF kr kr kr ?_
 refine mB1 tOk K40x6 25 kr kr ?_
 refine lV tOk [.rd,.rd,.rd] [] (impl_in n v8.Members 0 r13 r14 er14) kr kr kr kr (.inl rfl) ?_
 refine lF kr kr kr ?_
 refine mU tOk K40x6 [(26,[]),(27,[]),(28,[])] 7 [⟨[25],3,54,55⟩,⟨[24,25],3,48,49⟩,⟨[24,25],26,41,42⟩,⟨[2,24,25],3,33,34⟩] [28,27,26,25,24,23,22,21,20,19,18,17,16,15,14,13,12,11,10,9,8,7,6,5,4,3,2,1,0] rfl kr (fun cx => ?_)
 refine aT ⟨82,0,[sB 61 (!r14),sB 60 (!r14),sB 59 (!r14),sB 58 r14,sI 57 r13,sI 56 x1,sI 55 v8.Members,sA 54 6 3 1,sB 53 false,sB 52 false,sB 51 false,sB 50 false,sI 49 v8.Id,sA 48 6 3 0,sI 47 v12.Id,(46,.fad ((Vrow.row v12))),(45,.fad ((Vrow.row v12))),sI 44 (IntKind.wrap .i64 (y2 - 1)),sI 43 y2,sR 42 2 2 0 1 false,sA 41 2 2 0,sB 40 true,sB 39 true,sI 38 y2,sB 37 false,sB 36 false,sB 35 r9,sI 34 v8.Id,sA 33 6 3 0,sI 5 y2,sA 6 6 3 0,sI 28 y2,sI 27 (x0.Rows.length : Int),sC 26 (cF 3 x0.Rows Vrow.row),sA 2 2 2 0,sI 1 x1],[(6,(Vrow.row v8)),(2,(CV.frzRow (Vtab.row x0)))]⟩ kr ?_
 rw [h12]
 refine mU tOk K40x6 [(29,[]),(30,[]),(31,[]),(32,[]),(33,[]),(34,[]),(35,[])] 0 [⟨[25],3,54,55⟩,⟨[24,25],3,48,49⟩,⟨[24,25],26,41,42⟩,⟨[2,24,25],3,33,34⟩] [35,34,33,32,31,30,29,28,27,26,25,24,23,22,21,20,19,18,17,16,15,14,13,12,11,10,9,8,7,6,5,4,3,2,1,0] rfl kr (fun cx => ?_)
 exact mD K40x6 [68,28,27,26,2,1] [2] _ kr kr rfl
theorem impl_VtabOk_D6 (n : Nat) (v8 : Vrow) (r9 : Bool) (y2 : Int) (x0 : Vtab) (x1 : Int) (v12 : Vrow) (r13 : Int) (r14 : Bool) (h7 : (!r9) = false) (er9 : (impl_inF n v8.Id 1 99) = some r9) (h8 : (decide (y2 > 0)) = true) (ev12 : (idx x0.Rows (IntKind.wrap .i64 (y2 - 1))) = some v12) (er13 : (impl_allPortsF n x1) = some r13) (er14 : (impl_inF n v8.Members 0 r13) = some r14) (h11 : (decide (v12.Id ≥ v8.Id)) = false) (h12 : (!r14) = true) (cx : Cx) : AT Try.prog cx (rg Try.f40 6) [] 36 [] ⟨82,0,[sI 5 y2,sA 6 6 3 0,sI 28 y2,sI 27 (x0.Rows.length : Int),sC 26 (cF 3 x0.Rows Vrow.row),sA 2 2 2 0,sI 1 x1],[(6,(Vrow.row v8)),(2,(CV.frzRow (Vtab.row x0)))]⟩ (fun s => s = ⟨82,0,[sB 68 true,sI 28 y2,sI 27 (x0.Rows.length : Int),sC 26 (cF 3 x0.Rows Vrow.row),sA 2 2 2 0,sI 1 x1],[(2,(CV.frzRow (Vtab.row x0)))]⟩) := by
 refine mU tOk K40x6 [(0,[]),(1,[2,24,25])] 34 [⟨[2,24,25],3,33,34⟩] [1,0] rfl kr (fun cx => ?_)
 refine mB1 tOk K40x6 2 kr kr ?_
 refine lV tOk [.rd,.rd,.rd] [] (impl_in n v8.Id 1 99 r9 er9) kr kr kr kr (.inl rfl) ?_
 refine lF kr kr kr ?_
 refine mU tOk K40x6 [(3,[]),(4,[])] 31 [⟨[2,24,25],3,33,34⟩] [4,3,2,1,0] rfl kr (fun cx => ?_)
 refine aT ⟨82,0,[sB 37 (!r9),sB 36 (!r9),sB 35 r9,sI 34 v8.Id,sA 33 6 3 0,sI 5 y2,sA 6 6 3 0,sI 28 y2,sI 27 (x0.Rows.length : Int),sC 26 (cF 3 x0.Rows Vrow.row),sA 2 2 2 0,sI 1 x1],[(6,(Vrow.row v8)),(2,(CV.frzRow (Vtab.row x0)))]⟩ kr ?_
 rw [h7]
 refine mU tOk K40x6 [(5,[]),(6,[]),(7,[])] 28 [⟨[2,24,25],3,33,34⟩] [7,6,5,4,3,2,1,0] rfl kr (fun cx => ?_)
 refine aT ⟨82,0,[sB 40 (decide (y2 > 0)),sB 39 (decide (y2 > 0)),sI 38 y2,sB 37 false,sB 36 false,sB 35 r9,sI 34 v8.Id,sA 33 6 3 0,sI 5 y2,sA 6 6 3 0,sI 28 y2,sI 27 (x0.Rows.length : Int),sC 26 (cF 3 x0.Rows Vrow.row),sA 2 2 2 0,sI 1 x1],[(6,(Vrow.row v8)),(2,(CV.frzRow (Vtab.row x0)))]⟩ kr ?_
 rw [h8]
 refine mU tOk K40x6 [(8,[]),(9,[24,25]),(10,[]),(11,[])] 24 [⟨[24,25],26,41,42⟩,⟨[2,24,25],3,33,34⟩] [11,10,9,8,7,6,5,4,3,2,1,0] rfl kr (fun cx => ?_)
 refine aI tOk 12 26 0 42 44 45 (some (7,true)) ⟨(.box 2),[(0,0)],0,false,3,(CV.frzEs (x0.Rows.map Vrow.row))⟩ (IntKind.wrap .i64 (y2 - 1)) (Vrow.row v12) _ kr (oM K40x6 kr) (dM K40x6 kr) kr kr kr rfl (idx_isF ev12) rfl (fun cx => ?_)
 refine mU tOk K40x6 [(13,[]),(14,[]),(15,[]),(16,[24,25]),(17,[]),(18,[]),(19,[]),(20,[])] 15 [⟨[24,25],3,48,49⟩,⟨[24,25],26,41,42⟩,⟨[2,24,25],3,33,34⟩] [20,19,18,17,16,15,14,13,12,11,10,9,8,7,6,5,4,3,2,1,0] rfl kr (fun cx => ?_)
 refine aT ⟨82,0,[sB 53 (decide (v12.Id ≥ v8.Id)),sB 52 (decide (v12.Id ≥ v8.Id)),sB 51 (decide (v12.Id ≥ v8.Id)),sB 50 (decide (v12.Id ≥ v8.Id)),sI 49 v8.Id,sA 48 6 3 0,sI 47 v12.Id,(46,.fad ((Vrow.row v12))),(45,.fad ((Vrow.row v12))),sI 44 (IntKind.wrap .i64 (y2 - 1)),sI 43 y2,sR 42 2 2 0 1 false,sA 41 2 2 0,sB 40 true,sB 39 true,sI 38 y2,sB 37 false,sB 36 false,sB 35 r9,sI 34 v8.Id,sA 33 6 3 0,sI 5 y2,sA 6 6 3 0,sI 28 y2,sI 27 (x0.Rows.length : Int),sC 26 (cF 3 x0.Rows Vrow.row),sA 2 2 2 0,sI 1 x1],[(6,(Vrow.row v8)),(2,(CV.frzRow (Vtab.row x0)))]⟩ kr ?_
 rw [h11]
 refine aT ⟨82,0,[sB 53 false,sB 52 false,sB 51 false,sB 50 false,sI 49 v8.Id,sA 48 6 3 0,sI 47 v12.Id,(46,.fad ((Vrow.row v12))),(45,.fad ((Vrow.row v12))),sI 44 (IntKind.wrap .i64 (y2 - 1)),sI 43 y2,sR 42 2 2 0 1 false,sA 41 2 2 0,sB 40 true,sB 39 true,sI 38 y2,sB 37 false,sB 36 false,sB 35 r9,sI 34 v8.Id,sA 33 6 3 0,sI 5 y2,sA 6 6 3 0,sI 28 y2,sI 27 (x0.Rows.length : Int),sC 26 (cF 3 x0.Rows Vrow.row),sA 2 2 2 0,sI 1 x1],[(6,(Vrow.row v8)),(2,(CV.frzRow (Vtab.row x0)))]⟩ kr ?_
 exact impl_VtabOk_D5 n x1 r13 v8 r14 v12 y2 r9 x0 er13 er14 h12 cx
theorem impl_VtabOk_D7 (n : Nat) (v8 : Vrow) (v12 : Vrow) (y2 : Int) (r9 : Bool) (x0 : Vtab) (x1 : Int) (cx : Cx) : AT Try.prog cx (rg Try.f40 6) [⟨[],3,48,49⟩,⟨[],26,41,42⟩,⟨[2],3,33,34⟩] 15 [20,19,18,17,16,15,14,13,12,11,10,9,8,7,6,5,4,3,2,1,0] ⟨82,0,[sB 53 true,sB 52 true,sB 51 true,sB 50 true,sI 49 v8.Id,sA 48 6 3 0,sI 47 v12.Id,(46,.fad ((Vrow.row v12))),(45,.fad ((Vrow.row v12))),sI 44 (IntKind.wrap .i64 (y2 - 1)),sI 43 y2,sR 42 2 2 0 1 false,sA 41 2 2 0,sB 40 true,sB 39 true,sI 38 y2,sB 37 false,sB 36 false,sB 35 r9,sI 34 v8.Id,sA 33 6 3 0,sI 5 y2,sA 6 6 3 0,sI 28 y2,sI 27 (x0.Rows.length : Int),sC 26 (cF 3 x0.Rows Vrow.row),sA 2 2 2 0,sI 1 x1],[(6,(Vrow.row v8)),(2,(CV.frzRow (Vtab.row x0)))]⟩ (fun s => s = ⟨82,0,[sB 68 true,sI 28 y2,sI 27 (x0.Rows.length : Int),sC 26 (cF 3 x0.Rows Vrow.row),sA 2 2 2 0,sI 1 x1],[(2,(CV.frzRow (Vtab.row x0)))]⟩) := by
 refine mU tOk K40x6 [(21,[]),(22,[]),(23,[]),(24,[]),(25,[]),(26,[]),(27,[]),(28,[]),(29,[]),(30,[]),(31,[]),(32,[]),(33,[]),(34,[]),(35,[])] 0 [⟨[],3,48,49⟩,⟨[],26,41,42⟩,⟨[2],3,33,34⟩] [35,34,33,32,31,30,29,28,27,26,25,24,23,22,21,20,19,18,17,16,15,14,13,12,11,10,9,8,7,6,5,4,3,2,1,0] rfl kr (fun cx => ?_)
 exact mD K40x6 [68,28,27,26,2,1] [2] _ kr kr rfl
theorem impl_VtabOk_D8 (n : Nat) (v8 : Vrow) (r9 : Bool) (y2 : Int) (x0 : Vtab) (x1 : Int) (v12 : Vrow) (h7 : (!r9) = false) (er9 : (impl_inF n v8.Id 1 99) = some r9) (h8 : (decide (y2 > 0)) = true) (ev12 : (idx x0.Rows (IntKind.wrap .i64 (y2 - 1))) = some v12) (h11 : (decide (v12.Id ≥ v8.Id)) = true) (cx : Cx) : AT Try.prog cx (rg Try.f40 6) [] 36 [] ⟨82,0,[sI 5 y2,sA 6 6 3 0,sI 28 y2,sI 27 (x0.Rows.length : Int),sC 26 (cF 3 x0.Rows Vrow.row),sA 2 2 2 0,sI 1 x1],[(6,(Vrow.row v8)),(2,(CV.frzRow (Vtab.row x0)))]⟩ (fun s => s = ⟨82,0,[sB 68 true,sI 28 y2,sI 27 (x0.Rows.length : Int),sC 26 (cF 3 x0.Rows Vrow.row),sA 2 2 2 0,sI 1 x1],[(2,(CV.frzRow (Vtab.row x0)))]⟩) := by
 refine mU tOk K40x6 [(0,[]),(1,[2])] 34 [⟨[2],3,33,34⟩] [1,0] rfl kr (fun cx => ?_)
 refine mB1 tOk K40x6 2 kr kr ?_
 refine lV tOk [.rd,.rd,.rd] [] (impl_in n v8.Id 1 99 r9 er9) kr kr kr kr (.inl rfl) ?_
 refine lF kr kr kr ?_
 refine mU tOk K40x6 [(3,[]),(4,[])] 31 [⟨[2],3,33,34⟩] [4,3,2,1,0] rfl kr (fun cx => ?_)
 refine aT ⟨82,0,[sB 37 (!r9),sB 36 (!r9),sB 35 r9,sI 34 v8.Id,sA 33 6 3 0,sI 5 y2,sA 6 6 3 0,sI 28 y2,sI 27 (x0.Rows.length : Int),sC 26 (cF 3 x0.Rows Vrow.row),sA 2 2 2 0,sI 1 x1],[(6,(Vrow.row v8)),(2,(CV.frzRow (Vtab.row x0)))]⟩ kr ?_
 rw [h7]
 refine mU tOk K40x6 [(5,[]),(6,[]),(7,[])] 28 [⟨[2],3,33,34⟩] [7,6,5,4,3,2,1,0] rfl kr (fun cx => ?_)
 refine aT ⟨82,0,[sB 40 (decide (y2 > 0)),sB 39 (decide (y2 > 0)),sI 38 y2,sB 37 false,sB 36 false,sB 35 r9,sI 34 v8.Id,sA 33 6 3 0,sI 5 y2,sA 6 6 3 0,sI 28 y2,sI 27 (x0.Rows.length : Int),sC 26 (cF 3 x0.Rows Vrow.row),sA 2 2 2 0,sI 1 x1],[(6,(Vrow.row v8)),(2,(CV.frzRow (Vtab.row x0)))]⟩ kr ?_
 rw [h8]
 refine mU tOk K40x6 [(8,[]),(9,[]),(10,[]),(11,[])] 24 [⟨[],26,41,42⟩,⟨[2],3,33,34⟩] [11,10,9,8,7,6,5,4,3,2,1,0] rfl kr (fun cx => ?_)
 refine aI tOk 12 26 0 42 44 45 (some (7,true)) ⟨(.box 2),[(0,0)],0,false,3,(CV.frzEs (x0.Rows.map Vrow.row))⟩ (IntKind.wrap .i64 (y2 - 1)) (Vrow.row v12) _ kr (oM K40x6 kr) (dM K40x6 kr) kr kr kr rfl (idx_isF ev12) rfl (fun cx => ?_)
 refine mU tOk K40x6 [(13,[]),(14,[]),(15,[]),(16,[]),(17,[]),(18,[]),(19,[]),(20,[])] 15 [⟨[],3,48,49⟩,⟨[],26,41,42⟩,⟨[2],3,33,34⟩] [20,19,18,17,16,15,14,13,12,11,10,9,8,7,6,5,4,3,2,1,0] rfl kr (fun cx => ?_)
 refine aT ⟨82,0,[sB 53 (decide (v12.Id ≥ v8.Id)),sB 52 (decide (v12.Id ≥ v8.Id)),sB 51 (decide (v12.Id ≥ v8.Id)),sB 50 (decide (v12.Id ≥ v8.Id)),sI 49 v8.Id,sA 48 6 3 0,sI 47 v12.Id,(46,.fad ((Vrow.row v12))),(45,.fad ((Vrow.row v12))),sI 44 (IntKind.wrap .i64 (y2 - 1)),sI 43 y2,sR 42 2 2 0 1 false,sA 41 2 2 0,sB 40 true,sB 39 true,sI 38 y2,sB 37 false,sB 36 false,sB 35 r9,sI 34 v8.Id,sA 33 6 3 0,sI 5 y2,sA 6 6 3 0,sI 28 y2,sI 27 (x0.Rows.length : Int),sC 26 (cF 3 x0.Rows Vrow.row),sA 2 2 2 0,sI 1 x1],[(6,(Vrow.row v8)),(2,(CV.frzRow (Vtab.row x0)))]⟩ kr ?_
 rw [h11]
 refine aT ⟨82,0,[sB 53 true,sB 52 true,sB 51 true,sB 50 true,sI 49 v8.Id,sA 48 6 3 0,sI 47 v12.Id,(46,.fad ((Vrow.row v12))),(45,.fad ((Vrow.row v12))),sI 44 (IntKind.wrap .i64 (y2 - 1)),sI 43 y2,sR 42 2 2 0 1 false,sA 41 2 2 0,sB 40 true,sB 39 true,sI 38 y2,sB 37 false,sB 36 false,sB 35 r9,sI 34 v8.Id,sA 33 6 3 0,sI 5 y2,sA 6 6 3 0,sI 28 y2,sI 27 (x0.Rows.length : Int),sC 26 (cF 3 x0.Rows Vrow.row),sA 2 2 2 0,sI 1 x1],[(6,(Vrow.row v8)),(2,(CV.frzRow (Vtab.row x0)))]⟩ kr ?_
 exact impl_VtabOk_D7 n v8 v12 y2 r9 x0 x1 cx
theorem impl_VtabOk (n : Nat) (x0 : Vtab) (x1 : Int) (r : Bool) (H : impl_VtabOkF n x0 x1 = some r) : LCall Try.prog 40 [.val true (CV.frzRow (Vtab.row x0)),.val false [.lit (.int .i64 x1)]] [.val false [.lit (.bool r)]] [] := by
 refine LCall.of_body tOk Try.func40 rfl (c := (.seq (G40 0) (.seq (.seq (G40 1) (.cond (.tmp 24) (.seq (G40 2) .ret) .skip)) (.seq (.seq (G40 3) (.block 0 (.loop (.seq (G40 4) (.seq (.cond (.tmp 29) .skip (.exit 0)) (.seq (.block 1 (.seq (G40 5) (.seq (D40 6) (.cond (.tmp 68) (.seq (G40 7) .ret) .skip)))) (G40 8))))))) (.seq (.seq (G40 9) (.block 2 (.loop (.seq (G40 10) (.seq (.cond (.tmp 74) .skip (.exit 2)) (.seq (.block 3 (.seq (G40 11) (.seq (G40 12) (.cond (.tmp 80) (.seq (G40 13) .ret) .skip)))) (G40 14))))))) (.seq (G40 15) .ret)))))) kr (Nat.le_of_ble_eq_true kr) 0 (rs := [.tmp 4]) rfl [] .nil [(false,[.lit (.bool r)])] [] [] fun cx => ?_
 show Tr _ _ _ ⟨82,0,[sV 0 (CV.frzRow (Vtab.row x0)),sI 1 x1],[]⟩ _
 unfold impl_VtabOkF at H
 refine tG tOk 2 6 4 kr kr ?_
 refine tS ?_
 refine rU tOk 1 kr ?_
 obtain ⟨r1,er1,H⟩ := bind_some H
 refine lV tOk [.rd,.rd,.rd] [] (impl_in n x1 1 6 r1 er1) kr kr kr kr (.inl rfl) ?_
 refine lU tOk 2 kr ?_
 refine lT ⟨82,0,[sB 12 (!r1),sB 11 (!r1),sB 10 r1,sI 9 x1,sA 2 2 2 0,sI 1 x1],[(2,(CV.frzRow (Vtab.row x0)))]⟩ kr ?_
 cases h1 : (!r1)
 ·have H := bifF h1 H
  refine lU tOk 2 kr ?_
  refine lL tOk 27 3 3 14 15 (some (3,false)) ⟨(.slot 14),[],0,false,1,(CV.frzEs (x0.Pvid.map intRow))⟩ (x0.Pvid).length _ kr kr kr kr kr (frz_len _ _) rfl ?_
  refine lU tOk 4 kr ?_
  refine lT ⟨82,0,[sB 19 ((x0.Pvid.length : Int) != x1),sB 18 ((x0.Pvid.length : Int) != x1),sB 17 ((x0.Pvid.length : Int) != x1),sI 16 x1,sI 15 (x0.Pvid.length : Int),sC 14 (cF 1 x0.Pvid intRow),sA 13 2 2 1,sB 12 false,sB 11 false,sB 10 r1,sI 9 x1,sA 2 2 2 0,sI 1 x1],[(2,(CV.frzRow (Vtab.row x0)))]⟩ kr ?_
  cases h2 : ((x0.Pvid.length : Int) != x1)
  ·have H := bifF h2 H
   refine lU tOk 2 kr ?_
   refine lL tOk 26 3 124 21 22 (some (10,false)) ⟨(.slot 21),[],0,false,3,(CV.frzEs (x0.Rows.map Vrow.row))⟩ (x0.Rows).length _ kr kr kr kr kr (frz_len _ _) rfl ?_
   refine uD tOk 2 16777222 4 kr kr ?_
   obtain ⟨h3,H⟩ | ⟨h3,H⟩ := bC H
   ·refine tF h3 kr ?_
    refine tK ?_
    refine tS ?_
    refine rU tOk 2 kr ?_
    refine lL tOk 26 3 124 26 27 none ⟨(.slot 26),[],0,false,3,(CV.frzEs (x0.Rows.map Vrow.row))⟩ (x0.Rows).length _ kr kr kr kr kr (frz_len _ _) rfl ?_
    refine uD tOk 1 469762054 4 kr kr ?_
    obtain ⟨o7,eo7,Ho7⟩ := bind_some H
    clear H
    refine Tr.mid (ι := Unit) (fun v => ⟨82,0,[sA 2 2 2 0],[(2,(CV.frzRow (Vtab.row x0)))]⟩) (fun v => impl_VtabOk_J1 n x0 = some r) ?_ ?_
    ·refine tB ?_
     refine Tr.loop (ι := Nat × (Int)) (fun v => ⟨82,0,[sI 28 v.2,sI 27 (x0.Rows.length : Int),sC 26 (cF 3 x0.Rows Vrow.row),sA 2 2 2 0,sI 1 x1],[(2,(CV.frzRow (Vtab.row x0)))]⟩) (fun v => impl_VtabOk_L4 n v.1 x0 x1 v.2 = some o7) (fun v => v.1) (n,0) eo7 (St.sub_of [28,27,26,2,1] [2] kr) ?_
     rintro ⟨mo7,y2⟩ H
     have H : impl_VtabOk_L4 n mo7 x0 x1 y2 = some o7 := H
     obtain _ | mo7 := mo7
     ·cases (show (none : Option _) = some o7 from H)
     rw [impl_VtabOk_L4] at H
     refine tG tOk 1 1006632966 4 kr kr ?_
     refine tS ?_
     obtain ⟨h6,H⟩ | ⟨h6,H⟩ := bC H
     ·refine tF h6 kr ?_
      refine Tr.exit ?_
      refine And.intro (fun _ => ?_) (fun h => absurd rfl h)
      obtain rfl := si H
      have H := Ho7
      dsimp only at H
      exact jn () H (sB_ [2] [2] kr)
     refine tT h6 kr ?_
     refine tK ?_
     refine tS ?_
     refine tB ?_
     refine rU tOk 1 kr ?_
     obtain ⟨v8,ev8,H⟩ := bind_some H
     refine lI tOk 26 0 26 28 31 none ⟨(.slot 26),[],0,false,3,(CV.frzEs (x0.Rows.map Vrow.row))⟩ y2 (Vrow.row v8) _ kr kr kr kr rfl (idx_isF ev8) rfl ?_
     refine uD tOk 4 469762150 68 kr kr ?_
     obtain ⟨r9,er9,H⟩ := bind_some H
     refine tO ⟨82,0,[sI 5 y2,sA 6 6 3 0,sI 28 y2,sI 27 (x0.Rows.length : Int),sC 26 (cF 3 x0.Rows Vrow.row),sA 2 2 2 0,sI 1 x1],[(6,(Vrow.row v8)),(2,(CV.frzRow (Vtab.row x0)))]⟩ kr ?_
     cases h7 : (!r9)
     ·have H := bifF h7 H
      refine tO ⟨82,0,[sI 5 y2,sA 6 6 3 0,sI 28 y2,sI 27 (x0.Rows.length : Int),sC 26 (cF 3 x0.Rows Vrow.row),sA 2 2 2 0,sI 1 x1],[(6,(Vrow.row v8)),(2,(CV.frzRow (Vtab.row x0)))]⟩ kr ?_
      cases h8 : (decide (y2 > 0))
      ·have H := bifF h8 H
       obtain ⟨r10,er10,H⟩ := bind_some H
       obtain ⟨r11,er11,H⟩ := bind_some H
       refine tO ⟨82,0,[sI 5 y2,sA 6 6 3 0,sI 28 y2,sI 27 (x0.Rows.length : Int),sC 26 (cF 3 x0.Rows Vrow.row),sA 2 2 2 0,sI 1 x1],[(6,(Vrow.row v8)),(2,(CV.frzRow (Vtab.row x0)))]⟩ kr ?_
       cases h9 : (!r11)
       ·have H := bifF h9 H
        refine tO ⟨82,0,[sI 5 y2,sA 6 6 3 0,sI 28 y2,sI 27 (x0.Rows.length : Int),sC 26 (cF 3 x0.Rows Vrow.row),sA 2 2 2 0,sI 1 x1],[(6,(Vrow.row v8)),(2,(CV.frzRow (Vtab.row x0)))]⟩ kr ?_
        refine Tr.draws mixed 36 kr ⟨82,0,[sB 68 ((IntKind.wrap .i64 (BitVec.ofInt (IntKind.bits .i64) v8.Bare &&& ~~~BitVec.ofInt (IntKind.bits .i64) v8.Members).toNat) != 0),sI 28 y2,sI 27 (x0.Rows.length : Int),sC 26 (cF 3 x0.Rows Vrow.row),sA 2 2 2 0,sI 1 x1],[(2,(CV.frzRow (Vtab.row x0)))]⟩ (impl_VtabOk_D1 n v8 r9 y2 x0 x1 r10 r11 h7 h9 er9 er10 er11 h8) ?_
        refine tO ⟨82,0,[sB 68 ((IntKind.wrap .i64 (BitVec.ofInt (IntKind.bits .i64) v8.Bare &&& ~~~BitVec.ofInt (IntKind.bits .i64) v8.Members).toNat) != 0),sI 28 y2,sI 27 (x0.Rows.length : Int),sC 26 (cF 3 x0.Rows Vrow.row),sA 2 2 2 0,sI 1 x1],[(2,(CV.frzRow (Vtab.row x0)))]⟩ kr ?_
        cases h10 : ((IntKind.wrap .i64 (BitVec.ofInt (IntKind.bits .i64) v8.Bare &&& ~~~BitVec.ofInt (IntKind.bits .i64) v8.Members).toNat) != 0)
        ·have H := bifF h10 H
         refine tf kr ?_
         refine tK ?_
         refine tE tOk 2 469762054 4 kr kr ?_
         exact jn (mo7,(IntKind.wrap .i64 (y2 + 1))) H (sM mo7 [28,27,26,2,1] [2] kr)
        have H := bifT h10 H
        refine tt kr ?_
        refine tG tOk 1 16 0 kr kr ?_
        refine te ?_
        obtain rfl := si H
        have H := Ho7
        dsimp only at H
        obtain rfl := si H
        exact fO [(false,[cB false])] kr rfl rfl
       have H := bifT h9 H
       refine tO ⟨82,0,[sI 5 y2,sA 6 6 3 0,sI 28 y2,sI 27 (x0.Rows.length : Int),sC 26 (cF 3 x0.Rows Vrow.row),sA 2 2 2 0,sI 1 x1],[(6,(Vrow.row v8)),(2,(CV.frzRow (Vtab.row x0)))]⟩ kr ?_
       refine Tr.draws mixed 36 kr ⟨82,0,[sB 68 true,sI 28 y2,sI 27 (x0.Rows.length : Int),sC 26 (cF 3 x0.Rows Vrow.row),sA 2 2 2 0,sI 1 x1],[(2,(CV.frzRow (Vtab.row x0)))]⟩ (impl_VtabOk_D2 n v8 r9 y2 x0 x1 r10 r11 h7 h9 er9 er10 er11 h8) ?_
       refine tt kr ?_
       refine tG tOk 1 16 0 kr kr ?_
       refine te ?_
       obtain rfl := si H
       have H := Ho7
       dsimp only at H
       obtain rfl := si H
       exact fO [(false,[cB false])] kr rfl rfl
      have H := bifT h8 H
      obtain ⟨v12,ev12,H⟩ := bind_some H
      refine tO ⟨82,0,[sI 5 y2,sA 6 6 3 0,sI 28 y2,sI 27 (x0.Rows.length : Int),sC 26 (cF 3 x0.Rows Vrow.row),sA 2 2 2 0,sI 1 x1],[(6,(Vrow.row v8)),(2,(CV.frzRow (Vtab.row x0)))]⟩ kr ?_
      cases h11 : (decide (v12.Id ≥ v8.Id))
      ·have H := bifF h11 H
       obtain ⟨r13,er13,H⟩ := bind_some H
       obtain ⟨r14,er14,H⟩ := bind_some H
       refine tO ⟨82,0,[sI 5 y2,sA 6 6 3 0,sI 28 y2,sI 27 (x0.Rows.length : Int),sC 26 (cF 3 x0.Rows Vrow.row),sA 2 2 2 0,sI 1 x1],[(6,(Vrow.row v8)),(2,(CV.frzRow (Vtab.row x0)))]⟩ kr ?_
       cases h12 : (!r14)
       ·have H := bifF h12 H
        refine tO ⟨82,0,[sI 5 y2,sA 6 6 3 0,sI 28 y2,sI 27 (x0.Rows.length : Int),sC 26 (cF 3 x0.Rows Vrow.row),sA 2 2 2 0,sI 1 x1],[(6,(Vrow.row v8)),(2,(CV.frzRow (Vtab.row x0)))]⟩ kr ?_
        refine Tr.draws mixed 36 kr ⟨82,0,[sB 68 ((IntKind.wrap .i64 (BitVec.ofInt (IntKind.bits .i64) v8.Bare &&& ~~~BitVec.ofInt (IntKind.bits .i64) v8.Members).toNat) != 0),sI 28 y2,sI 27 (x0.Rows.length : Int),sC 26 (cF 3 x0.Rows Vrow.row),sA 2 2 2 0,sI 1 x1],[(2,(CV.frzRow (Vtab.row x0)))]⟩ (impl_VtabOk_D4 n v8 r9 y2 x0 x1 v12 r13 r14 h7 er9 h8 ev12 er13 er14 h11 h12) ?_
        refine tO ⟨82,0,[sB 68 ((IntKind.wrap .i64 (BitVec.ofInt (IntKind.bits .i64) v8.Bare &&& ~~~BitVec.ofInt (IntKind.bits .i64) v8.Members).toNat) != 0),sI 28 y2,sI 27 (x0.Rows.length : Int),sC 26 (cF 3 x0.Rows Vrow.row),sA 2 2 2 0,sI 1 x1],[(2,(CV.frzRow (Vtab.row x0)))]⟩ kr ?_
        cases h13 : ((IntKind.wrap .i64 (BitVec.ofInt (IntKind.bits .i64) v8.Bare &&& ~~~BitVec.ofInt (IntKind.bits .i64) v8.Members).toNat) != 0)
        ·have H := bifF h13 H
         refine tf kr ?_
         refine tK ?_
         refine tE tOk 2 469762054 4 kr kr ?_
         exact jn (mo7,(IntKind.wrap .i64 (y2 + 1))) H (sM mo7 [28,27,26,2,1] [2] kr)
        have H := bifT h13 H
        refine tt kr ?_
        refine tG tOk 1 16 0 kr kr ?_
        refine te ?_
        obtain rfl := si H
        have H := Ho7
        dsimp only at H
        obtain rfl := si H
        exact fO [(false,[cB false])] kr rfl rfl
       have H := bifT h12 H
       refine tO ⟨82,0,[sI 5 y2,sA 6 6 3 0,sI 28 y2,sI 27 (x0.Rows.length : Int),sC 26 (cF 3 x0.Rows Vrow.row),sA 2 2 2 0,sI 1 x1],[(6,(Vrow.row v8)),(2,(CV.frzRow (Vtab.row x0)))]⟩ kr ?_
       refine Tr.draws mixed 36 kr ⟨82,0,[sB 68 true,sI 28 y2,sI 27 (x0.Rows.length : Int),sC 26 (cF 3 x0.Rows Vrow.row),sA 2 2 2 0,sI 1 x1],[(2,(CV.frzRow (Vtab.row x0)))]⟩ (impl_VtabOk_D6 n v8 r9 y2 x0 x1 v12 r13 r14 h7 er9 h8 ev12 er13 er14 h11 h12) ?_
       refine tt kr ?_
       refine tG tOk 1 16 0 kr kr ?_
       refine te ?_
       obtain rfl := si H
       have H := Ho7
       dsimp only at H
       obtain rfl := si H
       exact fO [(false,[cB false])] kr rfl rfl
      have H := bifT h11 H
      refine tO ⟨82,0,[sI 5 y2,sA 6 6 3 0,sI 28 y2,sI 27 (x0.Rows.length : Int),sC 26 (cF 3 x0.Rows Vrow.row),sA 2 2 2 0,sI 1 x1],[(6,(Vrow.row v8)),(2,(CV.frzRow (Vtab.row x0)))]⟩ kr ?_
      refine Tr.draws mixed 36 kr ⟨82,0,[sB 68 true,sI 28 y2,sI 27 (x0.Rows.length : Int),sC 26 (cF 3 x0.Rows Vrow.row),sA 2 2 2 0,sI 1 x1],[(2,(CV.frzRow (Vtab.row x0)))]⟩ (impl_VtabOk_D8 n v8 r9 y2 x0 x1 v12 h7 er9 h8 ev12 h11) ?_
      refine tt kr ?_
      refine tG tOk 1 16 0 kr kr ?_
      refine te ?_
      obtain rfl := si H
      have H := Ho7
      dsimp only at H
      obtain rfl := si H
      exact fO [(false,[cB false])] kr rfl rfl
     have H := bifT h7 H
     refine Tr.draws mixed 36 kr ⟨82,0,[sB 68 true,sI 28 y2,sI 27 (x0.Rows.length : Int),sC 26 (cF 3 x0.Rows Vrow.row),sA 2 2 2 0,sI 1 x1],[(2,(CV.frzRow (Vtab.row x0)))]⟩ (fun cx => ?_) ?_
     ·refine mU tOk K40x6 [(0,[]),(1,[2])] 34 [⟨[2],3,33,34⟩] [1,0] rfl kr (fun cx => ?_)
      refine mB1 tOk K40x6 2 kr kr ?_
      refine lV tOk [.rd,.rd,.rd] [] (impl_in n v8.Id 1 99 r9 er9) kr kr kr kr (.inl rfl) ?_
      refine lF kr kr kr ?_
      refine mU tOk K40x6 [(3,[]),(4,[])] 31 [⟨[2],3,33,34⟩] [4,3,2,1,0] rfl kr (fun cx => ?_)
      refine aT ⟨82,0,[sB 37 (!r9),sB 36 (!r9),sB 35 r9,sI 34 v8.Id,sA 33 6 3 0,sI 5 y2,sA 6 6 3 0,sI 28 y2,sI 27 (x0.Rows.length : Int),sC 26 (cF 3 x0.Rows Vrow.row),sA 2 2 2 0,sI 1 x1],[(6,(Vrow.row v8)),(2,(CV.frzRow (Vtab.row x0)))]⟩ kr ?_
      rw [h7]
      refine mU tOk K40x6 [(5,[]),(6,[]),(7,[]),(8,[]),(9,[]),(10,[]),(11,[]),(12,[]),(13,[]),(14,[]),(15,[]),(16,[]),(17,[]),(18,[]),(19,[]),(20,[]),(21,[]),(22,[]),(23,[]),(24,[]),(25,[]),(26,[]),(27,[]),(28,[]),(29,[]),(30,[]),(31,[]),(32,[]),(33,[]),(34,[]),(35,[])] 0 [⟨[2],3,33,34⟩] [35,34,33,32,31,30,29,28,27,26,25,24,23,22,21,20,19,18,17,16,15,14,13,12,11,10,9,8,7,6,5,4,3,2,1,0] rfl kr (fun cx => ?_)
      exact mD K40x6 [68,28,27,26,2,1] [2] _ kr kr rfl
     refine tt kr ?_
     refine tG tOk 1 16 0 kr kr ?_
     refine te ?_
     obtain rfl := si H
     have H := Ho7
     dsimp only at H
     obtain rfl := si H
     exact fO [(false,[cB false])] kr rfl rfl
    rintro _ H
    have H : (impl_VtabOk_J1 n x0) = some r := H
    unfold impl_VtabOk_J1 at H
    refine tS ?_
    refine rU tOk 2 kr ?_
    refine lL tOk 27 3 3 71 72 none ⟨(.slot 71),[],0,false,1,(CV.frzEs (x0.Pvid.map intRow))⟩ (x0.Pvid).length _ kr kr kr kr kr (frz_len _ _) rfl ?_
    refine uD tOk 1 0x3800000000000000004 4 kr kr ?_
    obtain ⟨o4,eo4,Ho4⟩ := bind_some H
    clear H
    refine Tr.mid (ι := Unit) (fun v => ⟨82,0,[],[]⟩) (fun v => impl_VtabOk_J2 n = some r) ?_ ?_
    ·refine tB ?_
     refine Tr.loop (ι := Nat × (Int)) (fun v => ⟨82,0,[sI 73 v.2,sI 72 (x0.Pvid.length : Int),sC 71 (cF 1 x0.Pvid intRow),sA 2 2 2 0],[(2,(CV.frzRow (Vtab.row x0)))]⟩) (fun v => impl_VtabOk_L3 n v.1 x0 v.2 = some o4) (fun v => v.1) (n,0) eo4 (St.sub_of [73,72,71,2] [2] kr) ?_
     rintro ⟨mo4,y3⟩ H
     have H : impl_VtabOk_L3 n mo4 x0 y3 = some o4 := H
     obtain _ | mo4 := mo4
     ·cases (show (none : Option _) = some o4 from H)
     rw [impl_VtabOk_L3] at H
     refine tG tOk 1 0x7800000000000000004 4 kr kr ?_
     refine tS ?_
     obtain ⟨h4,H⟩ | ⟨h4,H⟩ := bC H
     ·refine tF h4 kr ?_
      refine Tr.exit ?_
      refine And.intro (fun _ => ?_) (fun h => absurd rfl h)
      obtain rfl := si H
      have H := Ho4
      dsimp only at H
      exact jn () H (sB_ [] [] kr)
     refine tT h4 kr ?_
     refine tK ?_
     refine tS ?_
     refine tB ?_
     refine tR ?_
     obtain ⟨v5,ev5,H⟩ := bind_some H
     refine lI tOk 27 0 71 73 75 none ⟨(.slot 71),[],0,false,1,(CV.frzEs (x0.Pvid.map intRow))⟩ y3 [cI v5] _ kr kr kr kr rfl (idx_isF ev5) rfl ?_
     refine uD tOk 2 0x3800000000000000104 4 kr kr ?_
     refine rU tOk 2 kr ?_
     obtain ⟨r6,er6,H⟩ := bind_some H
     refine lV tOk [.rd,.rd] [] (impl_RowAt n x0 v5 r6 er6) kr kr kr kr (.inl rfl) ?_
     refine uD tOk 1 0x103800000000000000004 4 kr kr ?_
     obtain ⟨h5,H⟩ | ⟨h5,H⟩ := bC H
     ·refine tF h5 kr ?_
      refine tK ?_
      refine tE tOk 2 0x3800000000000000004 4 kr kr ?_
      exact jn (mo4,(IntKind.wrap .i64 (y3 + 1))) H (sM mo4 [73,72,71,2] [2] kr)
     refine tT h5 kr ?_
     refine tG tOk 1 16 0 kr kr ?_
     refine te ?_
     obtain rfl := si H
     have H := Ho4
     dsimp only at H
     obtain rfl := si H
     exact fO [(false,[cB false])] kr rfl rfl
    rintro _ H
    have H : (impl_VtabOk_J2 n) = some r := H
    unfold impl_VtabOk_J2 at H
    refine tG tOk 1 16 0 kr kr ?_
    exact te (by obtain rfl := si H; exact fO [(false,[cB true])] kr rfl rfl)
   refine tT h3 kr ?_
   refine tG tOk 1 16 0 kr kr ?_
   exact te (by obtain rfl := si H; exact fO [(false,[cB false])] kr rfl rfl)
  have H := bifT h2 H
  refine uD tOk 5 16777222 4 kr kr ?_
  refine tt kr ?_
  refine tG tOk 1 16 0 kr kr ?_
  exact te (by obtain rfl := si H; exact fO [(false,[cB false])] kr rfl rfl)
 have H := bifT h1 H
 refine uD tOk 12 16777222 4 kr kr ?_
 refine tt kr ?_
 refine tG tOk 1 16 0 kr kr ?_
 exact te (by obtain rfl := si H; exact fO [(false,[cB false])] kr rfl rfl)
def impl_turnedF (n : Nat) (x0 : Vtab) (x1 : Vtab) : Option (Vtab × Bool) :=
  ((impl_VtabOkF n x0 (x0.Pvid.length : Int)).bind fun r1 => (bif (!r1) then ((impl_copyVtabF n x0).bind fun r4 => (some (r4,false))) else ((impl_VtabOkF n x1 (x0.Pvid.length : Int)).bind fun r2 => (bif (!r2) then ((impl_copyVtabF n x0).bind fun r3 => (some (r3,false))) else (some (x1,true))))))
noncomputable abbrev G104 (k : Nat) := Rg Try.f104 k
theorem impl_turned (n : Nat) (x0 : Vtab) (x1 : Vtab) (r : Vtab × Bool) (H : impl_turnedF n x0 x1 = some r) : LCall Try.prog 104 [.val true (CV.frzRow (Vtab.row x0)),.own true (Vtab.row x1)] [.val true (Vtab.row r.1),.val false [.lit (.bool r.2)]] [] := by
 refine LCall.of_body tOk Try.func104 rfl (c := (.seq (G104 0) (.seq (.seq (G104 1) (.cond (.tmp 19) (.seq (G104 2) .ret) .skip)) (.seq (G104 3) .ret)))) kr (Nat.le_of_ble_eq_true kr) 0 (rs := [.cell 4 29,.tmp 5]) rfl [] .nil [(true,(Vtab.row r.1)),(false,[.lit (.bool r.2)])] [] [] fun cx => ?_
 show Tr _ _ _ ⟨23,0,[sV 0 (CV.frzRow (Vtab.row x0)),sV 1 (Vtab.row x1)],[]⟩ _
 unfold impl_turnedF at H
 refine tG tOk 4 28 28 kr kr ?_
 refine tS ?_
 refine rU tOk 3 kr ?_
 refine lL tOk 27 3 3 8 9 none ⟨(.slot 8),[],0,false,1,(CV.frzEs (x0.Pvid.map intRow))⟩ (x0.Pvid).length _ kr kr kr kr kr (frz_len _ _) rfl ?_
 obtain ⟨r1,er1,H⟩ := bind_some H
 refine lV tOk [.rd,.rd] [] (impl_VtabOk n x0 (x0.Pvid.length : Int) r1 er1) kr kr kr kr (.inl rfl) ?_
 refine lU tOk 2 kr ?_
 refine lT ⟨23,0,[sB 12 (!r1),sB 11 (!r1),sB 10 r1,sI 9 (x0.Pvid.length : Int),sC 8 (cF 1 x0.Pvid intRow),sA 7 2 2 1,sV 6 (CV.frzRow (Vtab.row x0)),sA 4 4 2 0,sA 3 3 2 0,sA 2 2 2 0],[(4,[cL 3 ([] : List Vrow) Vrow.row,cL 1 ([] : List Int) intRow]),(3,(Vtab.row x1)),(2,(CV.frzRow (Vtab.row x0)))]⟩ kr ?_
 cases h1 : (!r1)
 ·have H := bifF h1 H
  refine lU tOk 3 kr ?_
  refine lL tOk 27 3 3 15 16 (some (6,false)) ⟨(.slot 15),[],0,false,1,(CV.frzEs (x0.Pvid.map intRow))⟩ (x0.Pvid).length _ kr kr kr kr kr (frz_len _ _) rfl ?_
  obtain ⟨r2,er2,H⟩ := bind_some H
  refine lV tOk [.rd,.rd] [.box 3] (impl_VtabOk n x1 (x0.Pvid.length : Int) r2 er2) kr kr kr kr (.inr (rets_cons (mine_cons mine_lit mine_nil) rets_nil)) ?_
  refine uD tOk 2 524316 28 kr kr ?_
  obtain ⟨h2,H⟩ | ⟨h2,H⟩ := bC H
  ·refine tF h2 kr ?_
   refine tK ?_
   refine tG tOk 3 48 16 kr kr ?_
   exact te (by obtain rfl := si H; exact fO [(true,(Vtab.row x1)),(false,[cB true])] kr rfl rfl)
  refine tT h2 kr ?_
  refine rU tOk 1 kr ?_
  obtain ⟨r3,er3,H⟩ := bind_some H
  refine lV tOk [.rd] [] (impl_copyVtab n x0 r3 er3) kr kr kr kr (.inl rfl) ?_
  refine uD tOk 2 48 16 kr kr ?_
  exact te (by obtain rfl := si H; exact fO [(true,(Vtab.row r3)),(false,[cB false])] kr rfl rfl)
 have H := bifT h1 H
 refine uD tOk 7 524316 28 kr kr ?_
 refine tt kr ?_
 refine rU tOk 1 kr ?_
 obtain ⟨r4,er4,H⟩ := bind_some H
 refine lV tOk [.rd] [] (impl_copyVtab n x0 r4 er4) kr kr kr kr (.inl rfl) ?_
 refine uD tOk 2 48 16 kr kr ?_
 exact te (by obtain rfl := si H; exact fO [(true,(Vtab.row r4)),(false,[cB false])] kr rfl rfl)
def impl_DropRowF (n : Nat) (x0 : Vtab) (x1 : Int) : Option (Vtab × Bool) :=
  ((impl_RowAtF n x0 x1).bind fun r1 => (bif (decide (r1 < 0)) then ((impl_copyVtabF n x0).bind fun r4 => (some (r4,false))) else ((impl_withoutRowF n x0 x1).bind fun r2 => ((impl_turnedF n x0 r2).bind fun r3 => (some (r3.1,r3.2))))))
def T35x3 : Tab := ⟨9,[0,0,0,6,9,16,16,127,255],[0,0,0,6,9,16,16,32,64],[0,0,0,6,15,31,31,127,255]⟩
noncomputable abbrev G35 (k : Nat) := Rg Try.f35 k
noncomputable abbrev D35 (k : Nat) := Rd Try.f35 k
theorem K35x3 : tabOk (rg Try.f35 3) T35x3 = true := kr
theorem impl_DropRow_D1 (n : Nat) (x0 : Vtab) (x1 : Int) (r2 : Vtab) (r3 : Vtab × Bool) (r1 : Int) (er2 : (impl_withoutRowF n x0 x1) = some r2) (er3 : (impl_turnedF n x0 r2) = some r3) (cx : Cx) : AT Try.prog cx (rg Try.f35 3) [] 9 [] ⟨19,0,[sB 9 (decide (r1 < 0)),sA 4 4 2 0,sA 2 2 2 0,sI 1 x1],[(4,[cL 3 ([] : List Vrow) Vrow.row,cL 1 ([] : List Int) intRow]),(2,(CV.frzRow (Vtab.row x0)))]⟩ (fun s => s = ⟨19,0,[sB 5 r3.2,sA 4 4 2 0],[(4,(Vtab.row r3.1))]⟩) := by
 refine mU tOk K35x3 [(0,[4,7]),(1,[3,4,7]),(2,[])] 6 [⟨[3,4,7],29,2,13⟩,⟨[4,7],29,2,12⟩] [2,1,0] rfl kr (fun cx => ?_)
 refine mB1 tOk K35x3 3 kr kr ?_
 refine lV tOk [.rd,.rd] [] (impl_withoutRow n x0 x1 r2 er2) kr kr kr kr (.inl rfl) ?_
 refine lF kr kr kr ?_
 refine mB1 tOk K35x3 4 kr kr ?_
 refine lV tOk [.rd,.own] [] (impl_turned n x0 r2 r3 er3) kr kr kr kr (.inl rfl) ?_
 refine lF kr kr kr ?_
 refine mU tOk K35x3 [(5,[]),(6,[])] 2 [⟨[3,4,7],29,2,13⟩,⟨[4,7],29,2,12⟩] [6,5,4,3,2,1,0] rfl kr (fun cx => ?_)
 refine mB1 tOk K35x3 7 kr kr ?_
 refine lU tOk 1 kr ?_
 refine lF kr kr kr ?_
 refine mU tOk K35x3 [(8,[])] 0 [⟨[3,4,7],29,2,13⟩,⟨[4,7],29,2,12⟩] [8,7,6,5,4,3,2,1,0] rfl kr (fun cx => ?_)
 exact mD K35x3 [5,4] [4] _ kr kr rfl
theorem impl_DropRow (n : Nat) (x0 : Vtab) (x1 : Int) (r : Vtab × Bool) (H : impl_DropRowF n x0 x1 = some r) : LCall Try.prog 35 [.val true (CV.frzRow (Vtab.row x0)),.val false [.lit (.int .i64 x1)]] [.val true (Vtab.row r.1),.val false [.lit (.bool r.2)]] [] := by
 refine LCall.of_body tOk Try.func35 rfl (c := (.seq (G35 0) (.seq (.seq (G35 1) (.cond (.tmp 9) (.seq (G35 2) .ret) .skip)) (.seq (D35 3) .ret)))) kr (Nat.le_of_ble_eq_true kr) 0 (rs := [.cell 4 29,.tmp 5]) rfl [] .nil [(true,(Vtab.row r.1)),(false,[.lit (.bool r.2)])] [] [] fun cx => ?_
 show Tr _ _ _ ⟨19,0,[sV 0 (CV.frzRow (Vtab.row x0)),sI 1 x1],[]⟩ _
 unfold impl_DropRowF at H
 refine tG tOk 3 22 20 kr kr ?_
 refine tS ?_
 refine rU tOk 2 kr ?_
 obtain ⟨r1,er1,H⟩ := bind_some H
 refine lV tOk [.rd,.rd] [] (impl_RowAt n x0 x1 r1 er1) kr kr kr kr (.inl rfl) ?_
 refine uD tOk 1 534 20 kr kr ?_
 obtain ⟨h1,H⟩ | ⟨h1,H⟩ := bC H
 ·refine tF h1 kr ?_
  refine tK ?_
  obtain ⟨r2,er2,H⟩ := bind_some H
  obtain ⟨r3,er3,H⟩ := bind_some H
  refine tO ⟨19,0,[sB 9 (decide (r1 < 0)),sA 4 4 2 0,sA 2 2 2 0,sI 1 x1],[(4,[cL 3 ([] : List Vrow) Vrow.row,cL 1 ([] : List Int) intRow]),(2,(CV.frzRow (Vtab.row x0)))]⟩ kr ?_
  refine Tr.draws mixed 9 kr ⟨19,0,[sB 5 r3.2,sA 4 4 2 0],[(4,(Vtab.row r3.1))]⟩ (impl_DropRow_D1 n x0 x1 r2 r3 r1 er2 er3) ?_
  exact te (by obtain rfl := si H; exact fO [(true,(Vtab.row r3.1)),(false,[cB r3.2])] kr rfl rfl)
 refine tT h1 kr ?_
 refine rU tOk 1 kr ?_
 obtain ⟨r4,er4,H⟩ := bind_some H
 refine lV tOk [.rd] [] (impl_copyVtab n x0 r4 er4) kr kr kr kr (.inl rfl) ?_
 refine uD tOk 2 48 16 kr kr ?_
 exact te (by obtain rfl := si H; exact fO [(true,(Vtab.row r4)),(false,[cB false])] kr rfl rfl)
def spec_DrawSetPvidF (n : Nat) (x0 : (List Int)) : Option (Vtab × Int × Int) :=
  ((spec_l1NewF n x0).bind fun r1 => ((spec_l9TabF n r1).bind fun r2 => ((spec_l1IntF n r2.2 [0,1,2,(-1),6]).bind fun r3 => ((spec_l1IntF n r3.2 [1,2,3,9]).bind fun r4 => (some (r2.1,r3.1,r4.1))))))
noncomputable abbrev G37 (k : Nat) := Rg Try.f37 k
theorem spec_DrawSetPvid (n : Nat) (x0 : (List Int)) (r : Vtab × Int × Int) (H : spec_DrawSetPvidF n x0 = some r) : LCall Try.prog 37 [.val false [.sl false 1 (CV.frzEs (x0.map byteRow))]] [.val true (Vtab.row r.1),.val false [.lit (.int .i64 r.2.1)],.val false [.lit (.int .i64 r.2.2)]] [] := by
 refine LCall.of_body tOk Try.func37 rfl (c := (.seq (G37 0) (.seq (G37 1) (.seq (G37 2) .ret)))) kr (Nat.le_of_ble_eq_true kr) 0 (rs := [.cell 2 29,.tmp 3,.tmp 4]) rfl [] .nil [(true,(Vtab.row r.1)),(false,[.lit (.int .i64 r.2.1)]),(false,[.lit (.int .i64 r.2.2)])] [] [] fun cx => ?_
 show Tr _ _ _ ⟨16,0,[sC 0 (cF 1 x0 byteRow)],[]⟩ _
 unfold spec_DrawSetPvidF at H
 refine tG tOk 3 5 4 kr kr ?_
 refine rU tOk 1 kr ?_
 obtain ⟨r1,er1,H⟩ := bind_some H
 refine lV tOk [.rd] [] (spec_l1New n x0 r1 er1) kr kr kr kr (.inl rfl) ?_
 refine uD tOk 1 36 132 kr kr ?_
 refine rU tOk 1 kr ?_
 obtain ⟨r2,er2,H⟩ := bind_some H
 refine LAt.callL tOk [.lend] (f := 109) (av := #[.tmp 8]) (ats := #[100]) (d := (some 9)) (ty := 29) (g := none) kr kr kr [] (spec_l9Tab n r1 r2 er2) kr (.inl rfl) ?_
 refine lU tOk 2 kr ?_
 obtain ⟨r3,er3,H⟩ := bind_some H
 refine LAt.callL tOk [.lend,.rd] (f := 56) (av := #[.tmp 10,.tmp 11]) (ats := #[100,27]) (d := (some 12)) (ty := 3) (g := none) kr kr kr [] (spec_l1Int n r2.2 [0,1,2,(-1),6] r3 er3) kr (.inl rfl) ?_
 refine lU tOk 2 kr ?_
 obtain ⟨r4,er4,H⟩ := bind_some H
 refine LAt.callL tOk [.lend,.rd] (f := 56) (av := #[.tmp 13,.tmp 14]) (ats := #[100,27]) (d := (some 15)) (ty := 3) (g := none) kr kr kr [] (spec_l1Int n r3.2 [1,2,3,9] r4 er4) kr (.inl rfl) ?_
 refine uD tOk 3 28 4 kr kr ?_
 exact te (by obtain rfl := si H; exact fO [(true,(Vtab.row r2.1)),(false,[cI r3.1]),(false,[cI r4.1])] kr rfl rfl)
def impl_SetPvidF (n : Nat) (x0 : Vtab) (x1 : Int) (x2 : Int) : Option (Vtab × Bool) :=
  ((impl_copyVtabF n x0).bind fun r1 => ((impl_inF n x1 0 (IntKind.wrap .i64 ((x0.Pvid.length : Int) - 1))).bind fun r2 => (bif (!r2) then (some (r1,false)) else ((idx r1.Pvid x1).bind fun v3 => ((impl_turnedF n x0 (⟨r1.Rows,(r1.Pvid.set (x1.toNat) x2)⟩ : Vtab)).bind fun r4 => (some (r4.1,r4.2)))))))
noncomputable abbrev G38 (k : Nat) := Rg Try.f38 k
theorem impl_SetPvid (n : Nat) (x0 : Vtab) (x1 : Int) (x2 : Int) (r : Vtab × Bool) (H : impl_SetPvidF n x0 x1 x2 = some r) : LCall Try.prog 38 [.val true (CV.frzRow (Vtab.row x0)),.val false [.lit (.int .i64 x1)],.val false [.lit (.int .i64 x2)]] [.val true (Vtab.row r.1),.val false [.lit (.bool r.2)]] [] := by
 refine LCall.of_body tOk Try.func38 rfl (c := (.seq (G38 0) (.seq (G38 1) (.seq (.seq (G38 2) (.cond (.tmp 17) (.seq (G38 3) .ret) .skip)) (.seq (G38 4) (.seq (G38 5) .ret)))))) kr (Nat.le_of_ble_eq_true kr) 0 (rs := [.cell 6 29,.tmp 7]) rfl [] .nil [(true,(Vtab.row r.1)),(false,[.lit (.bool r.2)])] [] [] fun cx => ?_
 show Tr _ _ _ ⟨29,0,[sV 0 (CV.frzRow (Vtab.row x0)),sI 1 x1,sI 2 x2],[]⟩ _
 unfold impl_SetPvidF at H
 refine tG tOk 3 78 72 kr kr ?_
 refine rU tOk 1 kr ?_
 obtain ⟨r1,er1,H⟩ := bind_some H
 refine lV tOk [.rd] [] (impl_copyVtab n x0 r1 er1) kr kr kr kr (.inl rfl) ?_
 refine uD tOk 2 334 328 kr kr ?_
 refine tS ?_
 refine rU tOk 3 kr ?_
 refine lL tOk 27 3 3 13 14 none ⟨(.slot 13),[],0,false,1,(CV.frzEs (x0.Pvid.map intRow))⟩ (x0.Pvid).length _ kr kr kr kr kr (frz_len _ _) rfl ?_
 refine lU tOk 1 kr ?_
 obtain ⟨r2,er2,H⟩ := bind_some H
 refine lV tOk [.rd,.rd,.rd] [] (impl_in n x1 0 (IntKind.wrap .i64 ((x0.Pvid.length : Int) - 1)) r2 er2) kr kr kr kr (.inl rfl) ?_
 refine uD tOk 1 131406 328 kr kr ?_
 obtain ⟨h1,H⟩ | ⟨h1,H⟩ := bC H
 ·refine tF h1 kr ?_
  refine tK ?_
  refine rU tOk 4 kr ?_
  obtain ⟨v3,ev3,H⟩ := bind_some H
  refine lO tOk 27 0 20 21 23 none ⟨(.box 8),[(0,0)],1,true,1,(r1.Pvid.map intRow)⟩ x1 (x1.toNat) (intRow v3) _ kr kr kr kr rfl kr (idx_isE ev3) rfl rfl ?_
  refine LAt.storeB tOk (t := 3) (ty := 0) (ad := (.tmp 23)) (x := (.tmp 22)) (g := none) (tI 3) false [cI x2] 8 1 (x1.toNat) 1 0 1 r1.Pvid intRow v3 x2 kr kr kr kr kr kr kr kr (idx_get ev3).2 kr kr kr kr ?_
  refine lD 328 328 kr ?_
  refine rU tOk 2 kr ?_
  obtain ⟨r4,er4,H⟩ := bind_some H
  refine lV tOk [.rd,.own] [] (impl_turned n x0 (⟨r1.Rows,(r1.Pvid.set (x1.toNat) x2)⟩ : Vtab) r4 er4) kr kr kr kr (.inl rfl) ?_
  refine uD tOk 4 192 64 kr kr ?_
  exact te (by obtain rfl := si H; exact fO [(true,(Vtab.row r4.1)),(false,[cB r4.2])] kr rfl rfl)
 refine tT h1 kr ?_
 refine tG tOk 3 192 64 kr kr ?_
 exact te (by obtain rfl := si H; exact fO [(true,(Vtab.row r1)),(false,[cB false])] kr rfl rfl)
def laws_sameInts_J1 (n : Nat) : Option (Bool) :=
  (some true)
def laws_sameInts_L2 (n : Nat) : Nat → (List Int) → (List Int) → Int → Option ((Unit) ⊕ (Bool))
  | 0,_,_,_ => none
  | mo2 + 1,x0,x1,y1 => (bif (decide (y1 < (x0.length : Int))) then ((idx x0 y1).bind fun v3 => ((idx x1 y1).bind fun v4 => (bif (v3 != v4) then (some (Sum.inr false)) else (laws_sameInts_L2 n mo2 x0 x1 (IntKind.wrap .i64 (y1 + 1)))))) else (some (Sum.inl ())))
def laws_sameIntsF (n : Nat) (x0 : (List Int)) (x1 : (List Int)) : Option (Bool) :=
  (bif ((x0.length : Int) != (x1.length : Int)) then (some false) else ((laws_sameInts_L2 n n x0 x1 0).bind fun o => match o with | .inl _ => (laws_sameInts_J1 n) | .inr r => some r))
def T50x6 : Tab := ⟨9,[0,0,3,4,0,0,48,64,136],[0,0,3,4,0,0,48,64,136],[0,0,3,7,0,0,48,112,255]⟩
noncomputable abbrev G50 (k : Nat) := Rg Try.f50 k
noncomputable abbrev D50 (k : Nat) := Rd Try.f50 k
theorem K50x6 : tabOk (rg Try.f50 6) T50x6 = true := kr
theorem laws_sameInts (n : Nat) (x0 : (List Int)) (x1 : (List Int)) (r : Bool) (H : laws_sameIntsF n x0 x1 = some r) : LCall Try.prog 50 [.val false [.sl false 1 (CV.frzEs (x0.map intRow))],.val false [.sl false 1 (CV.frzEs (x1.map intRow))]] [.val false [.lit (.bool r)]] [] := by
 refine LCall.of_body tOk Try.func50 rfl (c := (.seq (G50 0) (.seq (.seq (G50 1) (.cond (.tmp 10) (.seq (G50 2) .ret) .skip)) (.seq (.seq (G50 3) (.block 0 (.loop (.seq (.seq (G50 4) (.cond (.tmp 14) .skip (.exit 0))) (.seq (.block 1 (.seq (D50 6) (.cond (.tmp 25) (.seq (G50 7) .ret) .skip))) (G50 5)))))) (.seq (G50 8) .ret))))) kr (Nat.le_of_ble_eq_true kr) 0 (rs := [.tmp 4]) rfl [] .nil [(false,[.lit (.bool r)])] [] [] fun cx => ?_
 show Tr _ _ _ ⟨26,0,[sC 0 (cF 1 x0 intRow),sC 1 (cF 1 x1 intRow)],[]⟩ _
 unfold laws_sameIntsF at H
 refine tG tOk 1 3 0 kr kr ?_
 refine tS ?_
 refine rU tOk 1 kr ?_
 refine lL tOk 27 3 3 6 7 none ⟨(.slot 6),[],0,false,1,(CV.frzEs (x0.map intRow))⟩ (x0).length _ kr kr kr kr kr (frz_len _ _) rfl ?_
 refine lU tOk 1 kr ?_
 refine lL tOk 27 3 3 8 9 none ⟨(.slot 8),[],0,false,1,(CV.frzEs (x1.map intRow))⟩ (x1).length _ kr kr kr kr kr (frz_len _ _) rfl ?_
 refine uD tOk 1 1027 0 kr kr ?_
 obtain ⟨h1,H⟩ | ⟨h1,H⟩ := bC H
 ·refine tF h1 kr ?_
  refine tK ?_
  refine tS ?_
  refine tG tOk 1 35 0 kr kr ?_
  obtain ⟨o2,eo2,Ho2⟩ := bind_some H
  clear H
  refine Tr.mid (ι := Unit) (fun v => ⟨26,0,[],[]⟩) (fun v => laws_sameInts_J1 n = some r) ?_ ?_
  ·refine tB ?_
   refine Tr.loop (ι := Nat × (Int)) (fun v => ⟨26,0,[sI 5 v.2,sC 0 (cF 1 x0 intRow),sC 1 (cF 1 x1 intRow)],[]⟩) (fun v => laws_sameInts_L2 n v.1 x0 x1 v.2 = some o2) (fun v => v.1) (n,0) eo2 (St.sub_of [5,0,1] [] kr) ?_
   rintro ⟨mo2,y1⟩ H
   have H : laws_sameInts_L2 n mo2 x0 x1 y1 = some o2 := H
   obtain _ | mo2 := mo2
   ·cases (show (none : Option _) = some o2 from H)
   rw [laws_sameInts_L2] at H
   refine tS ?_
   refine rU tOk 2 kr ?_
   refine lL tOk 27 3 3 12 13 none ⟨(.slot 12),[],0,false,1,(CV.frzEs (x0.map intRow))⟩ (x0).length _ kr kr kr kr kr (frz_len _ _) rfl ?_
   refine uD tOk 1 16419 0 kr kr ?_
   obtain ⟨h2,H⟩ | ⟨h2,H⟩ := bC H
   ·refine tF h2 kr ?_
    refine Tr.exit ?_
    refine And.intro (fun _ => ?_) (fun h => absurd rfl h)
    obtain rfl := si H
    have H := Ho2
    dsimp only at H
    exact jn () H (sB_ [] [] kr)
   refine tT h2 kr ?_
   refine tK ?_
   refine tS ?_
   refine tB ?_
   obtain ⟨v3,ev3,H⟩ := bind_some H
   obtain ⟨v4,ev4,H⟩ := bind_some H
   refine Tr.draws mixed 9 kr ⟨26,0,[sB 25 (v3 != v4),sI 5 y1,sC 0 (cF 1 x0 intRow),sC 1 (cF 1 x1 intRow)],[]⟩ (fun cx => ?_) ?_
   ·refine mU tOk K50x6 [(0,[]),(1,[])] 7 [] [1,0] rfl kr (fun cx => ?_)
    refine aI tOk 2 27 0 17 18 19 none ⟨(.slot 17),[],0,false,1,(CV.frzEs (x0.map intRow))⟩ y1 [cI v3] _ kr (oM K50x6 kr) (dM K50x6 kr) kr kr kr rfl (idx_isF ev3) rfl (fun cx => ?_)
    refine mU tOk K50x6 [(3,[]),(4,[]),(5,[])] 3 [] [5,4,3,2,1,0] rfl kr (fun cx => ?_)
    refine aI tOk 6 27 0 21 22 23 none ⟨(.slot 21),[],0,false,1,(CV.frzEs (x1.map intRow))⟩ y1 [cI v4] _ kr (oM K50x6 kr) (dM K50x6 kr) kr kr kr rfl (idx_isF ev4) rfl (fun cx => ?_)
    refine mU tOk K50x6 [(7,[]),(8,[])] 0 [] [8,7,6,5,4,3,2,1,0] rfl kr (fun cx => ?_)
    exact mD K50x6 [25,5,0,1] [] _ kr kr rfl
   refine tO ⟨26,0,[sB 25 (v3 != v4),sI 5 y1,sC 0 (cF 1 x0 intRow),sC 1 (cF 1 x1 intRow)],[]⟩ kr ?_
   cases h3 : (v3 != v4)
   ·have H := bifF h3 H
    refine tf kr ?_
    refine tK ?_
    refine tE tOk 3 35 0 kr kr ?_
    exact jn (mo2,(IntKind.wrap .i64 (y1 + 1))) H (sM mo2 [5,0,1] [] kr)
   have H := bifT h3 H
   refine tt kr ?_
   refine tG tOk 1 16 0 kr kr ?_
   refine te ?_
   obtain rfl := si H
   have H := Ho2
   dsimp only at H
   obtain rfl := si H
   exact fO [(false,[cB false])] kr rfl rfl
  rintro _ H
  have H : (laws_sameInts_J1 n) = some r := H
  unfold laws_sameInts_J1 at H
  refine tG tOk 1 16 0 kr kr ?_
  exact te (by obtain rfl := si H; exact fO [(false,[cB true])] kr rfl rfl)
 refine tT h1 kr ?_
 refine tG tOk 1 16 0 kr kr ?_
 exact te (by obtain rfl := si H; exact fO [(false,[cB false])] kr rfl rfl)
def laws_sameVtab_J1 (n : Nat) : Option (Bool) :=
  (some true)
def laws_sameVtab_L2 (n : Nat) : Nat → Vtab → Vtab → Int → Option ((Unit) ⊕ (Bool))
  | 0,_,_,_ => none
  | mo3 + 1,x0,x1,y2 => (bif (decide (y2 < (x0.Rows.length : Int))) then ((idx x0.Rows y2).bind fun v4 => ((idx x1.Rows y2).bind fun v5 => (bif (!((v4.Id == v5.Id) && ((v4.Members == v5.Members) && ((v4.Bare == v5.Bare) && true)))) then (some (Sum.inr false)) else (laws_sameVtab_L2 n mo3 x0 x1 (IntKind.wrap .i64 (y2 + 1)))))) else (some (Sum.inl ())))
def laws_sameVtabF (n : Nat) (x0 : Vtab) (x1 : Vtab) : Option (Bool) :=
  (bif ((x0.Rows.length : Int) != (x1.Rows.length : Int)) then (some false) else ((laws_sameIntsF n x0.Pvid x1.Pvid).bind fun r1 => (bif (!r1) then (some false) else ((laws_sameVtab_L2 n n x0 x1 0).bind fun o => match o with | .inl _ => (laws_sameVtab_J1 n) | .inr r => some r))))
def T42x6 : Tab := ⟨11,[0,1,0,6,8,0,32,0,192,256,528],[0,1,0,6,8,0,32,0,192,256,528],[0,1,0,7,15,0,32,0,224,480,1023]⟩
noncomputable abbrev G42 (k : Nat) := Rg Try.f42 k
noncomputable abbrev D42 (k : Nat) := Rd Try.f42 k
theorem K42x6 : tabOk (rg Try.f42 6) T42x6 = true := kr
theorem laws_sameVtab (n : Nat) (x0 : Vtab) (x1 : Vtab) (r : Bool) (H : laws_sameVtabF n x0 x1 = some r) : LCall Try.prog 42 [.val true (CV.frzRow (Vtab.row x0)),.val true (CV.frzRow (Vtab.row x1))] [.val false [.lit (.bool r)]] [] := by
 refine LCall.of_body tOk Try.func42 rfl (c := (.seq (G42 0) (.seq (.seq (G42 1) (.cond (.tmp 20) (.seq (G42 2) .ret) .skip)) (.seq (.seq (G42 3) (.block 0 (.loop (.seq (.seq (G42 4) (.cond (.tmp 25) .skip (.exit 0))) (.seq (.block 1 (.seq (D42 6) (.cond (.tmp 38) (.seq (G42 7) .ret) .skip))) (G42 5)))))) (.seq (G42 8) .ret))))) kr (Nat.le_of_ble_eq_true kr) 0 (rs := [.tmp 4]) rfl [] .nil [(false,[.lit (.bool r)])] [] [] fun cx => ?_
 show Tr _ _ _ ⟨39,0,[sV 0 (CV.frzRow (Vtab.row x0)),sV 1 (CV.frzRow (Vtab.row x1))],[]⟩ _
 unfold laws_sameVtabF at H
 refine tG tOk 3 12 12 kr kr ?_
 refine tS ?_
 refine rU tOk 2 kr ?_
 refine lL tOk 26 3 124 7 8 none ⟨(.slot 7),[],0,false,3,(CV.frzEs (x0.Rows.map Vrow.row))⟩ (x0.Rows).length _ kr kr kr kr kr (frz_len _ _) rfl ?_
 refine lU tOk 2 kr ?_
 refine lL tOk 26 3 124 10 11 none ⟨(.slot 10),[],0,false,3,(CV.frzEs (x1.Rows.map Vrow.row))⟩ (x1.Rows).length _ kr kr kr kr kr (frz_len _ _) rfl ?_
 refine lU tOk 2 kr ?_
 refine lT ⟨39,0,[sB 13 ((x0.Rows.length : Int) != (x1.Rows.length : Int)),sB 12 ((x0.Rows.length : Int) != (x1.Rows.length : Int)),sI 11 (x1.Rows.length : Int),sC 10 (cF 3 x1.Rows Vrow.row),sA 9 3 2 0,sI 8 (x0.Rows.length : Int),sC 7 (cF 3 x0.Rows Vrow.row),sA 6 2 2 0,sA 3 3 2 0,sA 2 2 2 0],[(3,(CV.frzRow (Vtab.row x1))),(2,(CV.frzRow (Vtab.row x0)))]⟩ kr ?_
 cases h1 : ((x0.Rows.length : Int) != (x1.Rows.length : Int))
 ·have H := bifF h1 H
  refine lU tOk 4 kr ?_
  obtain ⟨r1,er1,H⟩ := bind_some H
  refine lV tOk [.rd,.rd] [] (laws_sameInts n x0.Pvid x1.Pvid r1 er1) kr kr kr kr (.inl rfl) ?_
  refine uD tOk 2 1048588 12 kr kr ?_
  obtain ⟨h2,H⟩ | ⟨h2,H⟩ := bC H
  ·refine tF h2 kr ?_
   refine tK ?_
   refine tS ?_
   refine tG tOk 1 44 12 kr kr ?_
   obtain ⟨o3,eo3,Ho3⟩ := bind_some H
   clear H
   refine Tr.mid (ι := Unit) (fun v => ⟨39,0,[],[]⟩) (fun v => laws_sameVtab_J1 n = some r) ?_ ?_
   ·refine tB ?_
    refine Tr.loop (ι := Nat × (Int)) (fun v => ⟨39,0,[sI 5 v.2,sA 3 3 2 0,sA 2 2 2 0],[(3,(CV.frzRow (Vtab.row x1))),(2,(CV.frzRow (Vtab.row x0)))]⟩) (fun v => laws_sameVtab_L2 n v.1 x0 x1 v.2 = some o3) (fun v => v.1) (n,0) eo3 (St.sub_of [5,3,2] [3,2] kr) ?_
    rintro ⟨mo3,y2⟩ H
    have H : laws_sameVtab_L2 n mo3 x0 x1 y2 = some o3 := H
    obtain _ | mo3 := mo3
    ·cases (show (none : Option _) = some o3 from H)
    rw [laws_sameVtab_L2] at H
    refine tS ?_
    refine rU tOk 3 kr ?_
    refine lL tOk 26 3 124 23 24 none ⟨(.slot 23),[],0,false,3,(CV.frzEs (x0.Rows.map Vrow.row))⟩ (x0.Rows).length _ kr kr kr kr kr (frz_len _ _) rfl ?_
    refine uD tOk 1 33554476 12 kr kr ?_
    obtain ⟨h3,H⟩ | ⟨h3,H⟩ := bC H
    ·refine tF h3 kr ?_
     refine Tr.exit ?_
     refine And.intro (fun _ => ?_) (fun h => absurd rfl h)
     obtain rfl := si H
     have H := Ho3
     dsimp only at H
     exact jn () H (sB_ [] [] kr)
    refine tT h3 kr ?_
    refine tK ?_
    refine tS ?_
    refine tB ?_
    obtain ⟨v4,ev4,H⟩ := bind_some H
    obtain ⟨v5,ev5,H⟩ := bind_some H
    refine Tr.draws mixed 11 kr ⟨39,0,[sB 38 (!((v4.Id == v5.Id) && ((v4.Members == v5.Members) && ((v4.Bare == v5.Bare) && true)))),sI 5 y2,sA 3 3 2 0,sA 2 2 2 0],[(3,(CV.frzRow (Vtab.row x1))),(2,(CV.frzRow (Vtab.row x0)))]⟩ (fun cx => ?_) ?_
    ·refine mU tOk K42x6 [(0,[]),(1,[10]),(2,[])] 8 [⟨[10],26,28,29⟩] [2,1,0] rfl kr (fun cx => ?_)
     refine aI tOk 3 26 0 29 30 31 none ⟨(.box 2),[(0,0)],0,false,3,(CV.frzEs (x0.Rows.map Vrow.row))⟩ y2 (Vrow.row v4) _ kr (oM K42x6 kr) (dM K42x6 kr) kr kr kr rfl (idx_isF ev4) rfl (fun cx => ?_)
     refine mU tOk K42x6 [(4,[]),(5,[]),(6,[10]),(7,[])] 3 [⟨[10],26,33,34⟩,⟨[10],26,28,29⟩] [7,6,5,4,3,2,1,0] rfl kr (fun cx => ?_)
     refine aI tOk 8 26 0 34 35 36 none ⟨(.box 3),[(0,0)],0,false,3,(CV.frzEs (x1.Rows.map Vrow.row))⟩ y2 (Vrow.row v5) _ kr (oM K42x6 kr) (dM K42x6 kr) kr kr kr rfl (idx_isF ev5) rfl (fun cx => ?_)
     refine mU tOk K42x6 [(9,[])] 1 [⟨[10],26,33,34⟩,⟨[10],26,28,29⟩] [9,8,7,6,5,4,3,2,1,0] rfl kr (fun cx => ?_)
     refine mB1 tOk K42x6 10 kr kr ?_
     refine LAt.eqSG true (t := 124) (ty := 124) (ty' := 4) (x := (.tmp 32)) (y := (.tmp 37)) (d := 38) (g := none) ((v4.Id == v5.Id) && ((v4.Members == v5.Members) && ((v4.Bare == v5.Bare) && true))) _ kr kr kr kr rfl ?_
     refine lF kr kr kr ?_
     exact mD K42x6 [38,5,3,2] [3,2] _ kr kr rfl
    refine tO ⟨39,0,[sB 38 (!((v4.Id == v5.Id) && ((v4.Members == v5.Members) && ((v4.Bare == v5.Bare) && true)))),sI 5 y2,sA 3 3 2 0,sA 2 2 2 0],[(3,(CV.frzRow (Vtab.row x1))),(2,(CV.frzRow (Vtab.row x0)))]⟩ kr ?_
    cases h4 : (!((v4.Id == v5.Id) && ((v4.Members == v5.Members) && ((v4.Bare == v5.Bare) && true))))
    ·have H := bifF h4 H
     refine tf kr ?_
     refine tK ?_
     refine tE tOk 3 44 12 kr kr ?_
     exact jn (mo3,(IntKind.wrap .i64 (y2 + 1))) H (sM mo3 [5,3,2] [3,2] kr)
    have H := bifT h4 H
    refine tt kr ?_
    refine tG tOk 1 16 0 kr kr ?_
    refine te ?_
    obtain rfl := si H
    have H := Ho3
    dsimp only at H
    obtain rfl := si H
    exact fO [(false,[cB false])] kr rfl rfl
   rintro _ H
   have H : (laws_sameVtab_J1 n) = some r := H
   unfold laws_sameVtab_J1 at H
   refine tG tOk 1 16 0 kr kr ?_
   exact te (by obtain rfl := si H; exact fO [(false,[cB true])] kr rfl rfl)
  refine tT h2 kr ?_
  refine tG tOk 1 16 0 kr kr ?_
  exact te (by obtain rfl := si H; exact fO [(false,[cB false])] kr rfl rfl)
 have H := bifT h1 H
 refine uD tOk 7 1048588 12 kr kr ?_
 refine tt kr ?_
 refine tG tOk 1 16 0 kr kr ?_
 exact te (by obtain rfl := si H; exact fO [(false,[cB false])] kr rfl rfl)
def laws_FnNetworksBentF (n : Nat) (x0 : (List Int)) : Option (Bool) :=
  ((laws_bigF n x0).bind fun r1 => (bif r1 then (some true) else ((spec_DrawVtabNewF n x0).bind fun r2 => ((impl_VtabNewF n r2).bind fun r3 => ((spec_DrawVtabOkF n x0).bind fun r4 => ((spec_DrawDropRowF n x0).bind fun r5 => ((impl_DropRowF n r5.1 r5.2).bind fun r6 => ((spec_DropRowF n r5.1 r5.2).bind fun r7 => ((spec_DrawSetPvidF n x0).bind fun r8 => ((impl_SetPvidF n r8.1 r8.2.1 r8.2.2).bind fun r9 => ((spec_SetPvidF n r8.1 r8.2.1 r8.2.2).bind fun r10 => ((impl_VtabOkF n r3 r2).bind fun r11 => (bif (decide (r2 ≥ 1)) then (bif (r11 == (decide (r2 ≤ 6))) then ((impl_VtabOkF n r4.1 r4.2).bind fun r18 => ((spec_VtabOkF n r4.1 r4.2).bind fun r19 => (bif (r18 == r19) then (bif (r6.2 == r7.2) then (bif (r9.2 == r10.2) then ((laws_sameVtabF n r6.1 r7.1).bind fun r20 => (bif r20 then ((laws_sameVtabF n r9.1 r10.1).bind fun r21 => (bif r21 then ((spec_VtabNewF n r2).bind fun r22 => ((laws_sameVtabF n r3 r22).bind fun r23 => (some r23))) else (some false))) else (some false))) else (some false)) else (some false)) else (some false)))) else (some false)) else (bif (r11 == false) then ((impl_VtabOkF n r4.1 r4.2).bind fun r12 => ((spec_VtabOkF n r4.1 r4.2).bind fun r13 => (bif (r12 == r13) then (bif (r6.2 == r7.2) then (bif (r9.2 == r10.2) then ((laws_sameVtabF n r6.1 r7.1).bind fun r14 => (bif r14 then ((laws_sameVtabF n r9.1 r10.1).bind fun r15 => (bif r15 then ((spec_VtabNewF n r2).bind fun r16 => ((laws_sameVtabF n r3 r16).bind fun r17 => (some r17))) else (some false))) else (some false))) else (some false)) else (some false)) else (some false)))) else (some false)))))))))))))))
def T6x12 : Tab := ⟨46,[0,0,3,0,8,20,32,96,160,260,544,1024,1024,7168,1024,1024,58368,74752,132096,327680,524288,524288,3670016,4718592,8912896,16777216,16777216,117440512,150994944,285212672,536870912,536870912,3758096384,4831838208,12884901888,17179869184,17179869184,120259084288,154618822656,412316860416,549755813888,549755813888,2748779069440,6047313952768,9345848836096,35184372088831],[0,0,3,0,8,16,32,96,160,260,512,1024,1024,7168,1024,1024,50176,74752,132096,262144,524288,524288,3670016,4718592,8388608,16777216,16777216,117440512,150994944,268435456,536870912,536870912,3758096384,4831838208,8589934592,17179869184,17179869184,120259084288,154618822656,274877906944,549755813888,549755813888,2748779069440,6047313952768,9345848836096,17592186044416],[0,0,3,0,8,31,63,127,255,511,1023,2047,2047,8191,2047,2047,65535,131071,262143,524287,1048575,1048575,4194303,8388607,16777215,33554431,33554431,134217727,268435455,536870911,1073741823,1073741823,4294967295,8589934591,17179869183,34359738367,34359738367,137438953471,274877906943,549755813887,0xffffffffff,0xffffffffff,3298534883327,8796093022207,0xfffffffffff,35184372088831]⟩
noncomputable abbrev G6 (k : Nat) := Rg Try.f6 k
noncomputable abbrev D6 (k : Nat) := Rd Try.f6 k
theorem K6x12 : tabOk (rg Try.f6 12) T6x12 = true := kr
theorem laws_FnNetworksBent_D1 (n : Nat) (r3 : Vtab) (r2 : Int) (r11 : Bool) (r10 : Vtab × Bool) (r9 : Vtab × Bool) (r7 : Vtab × Bool) (r6 : Vtab × Bool) (r4 : Vtab × Int) (er11 : (impl_VtabOkF n r3 r2) = some r11) (h2 : (decide (r2 ≥ 1)) = false) (h3 : (r11 == false) = false) (cx : Cx) : AT Try.prog cx (rg Try.f6 12) [] 46 [] ⟨113,0,[sB 19 r10.2,sA 18 18 2 0,sB 17 r9.2,sA 16 16 2 0,sB 12 r7.2,sA 11 11 2 0,sB 10 r6.2,sA 9 9 2 0,sI 6 r4.2,sA 5 5 2 0,sA 4 4 2 0,sI 3 r2],[(18,(Vtab.row r10.1)),(16,(Vtab.row r9.1)),(11,(Vtab.row r7.1)),(9,(Vtab.row r6.1)),(5,(Vtab.row r4.1)),(4,(Vtab.row r3))]⟩ (fun s => s = ⟨113,0,[sB 2 false],[]⟩) := by
 refine mU tOk K6x12 [(0,[2]),(1,[]),(3,[]),(4,[])] 42 [⟨[2],29,4,68⟩] [4,3,1,0] rfl kr (fun cx => ?_)
 refine mB1 tOk K6x12 2 kr kr ?_
 refine lV tOk [.rd,.rd] [.box 4] (impl_VtabOk n r3 r2 r11 er11) kr kr kr kr (.inr (rets_cons (mine_cons mine_lit mine_nil) rets_nil)) ?_
 refine lF kr kr kr ?_
 refine mU tOk K6x12 [(5,[])] 40 [⟨[2],29,4,68⟩] [5,2,4,3,1,0] rfl kr (fun cx => ?_)
 refine aT ⟨113,0,[sB 73 (decide (r2 ≥ 1)),sB 70 r11,sB 72 (decide (r2 ≥ 1)),sI 71 r2,sI 69 r2,sR 68 4 2 0 2 true,sB 19 r10.2,sA 18 18 2 0,sB 17 r9.2,sA 16 16 2 0,sB 12 r7.2,sA 11 11 2 0,sB 10 r6.2,sA 9 9 2 0,sI 6 r4.2,sA 5 5 2 0,sA 4 4 2 0,sI 3 r2],[(18,(Vtab.row r10.1)),(16,(Vtab.row r9.1)),(11,(Vtab.row r7.1)),(9,(Vtab.row r6.1)),(5,(Vtab.row r4.1)),(4,(Vtab.row r3))]⟩ kr ?_
 rw [h2]
 refine mU tOk K6x12 [(6,[]),(7,[]),(8,[]),(9,[]),(10,[])] 35 [⟨[2],29,4,68⟩] [10,9,8,7,6,5,2,4,3,1,0] rfl kr (fun cx => ?_)
 refine aT ⟨113,0,[sB 78 (r11 == false),sB 77 (r11 == false),sB 76 false,(75,.tup []),(74,.tup []),sB 73 false,sB 70 r11,sB 72 false,sI 71 r2,sI 69 r2,sR 68 4 2 0 2 true,sB 19 r10.2,sA 18 18 2 0,sB 17 r9.2,sA 16 16 2 0,sB 12 r7.2,sA 11 11 2 0,sB 10 r6.2,sA 9 9 2 0,sI 6 r4.2,sA 5 5 2 0,sA 4 4 2 0,sI 3 r2],[(18,(Vtab.row r10.1)),(16,(Vtab.row r9.1)),(11,(Vtab.row r7.1)),(9,(Vtab.row r6.1)),(5,(Vtab.row r4.1)),(4,(Vtab.row r3))]⟩ kr ?_
 rw [h3]
 refine mU tOk K6x12 [(11,[]),(12,[]),(13,[]),(14,[]),(15,[]),(16,[]),(17,[]),(18,[]),(19,[]),(20,[]),(21,[]),(22,[]),(23,[]),(24,[]),(25,[]),(26,[]),(27,[]),(28,[]),(29,[]),(30,[]),(31,[]),(32,[]),(33,[]),(34,[]),(35,[]),(36,[]),(37,[]),(38,[]),(39,[]),(40,[]),(41,[]),(42,[]),(43,[]),(44,[]),(45,[])] 0 [⟨[2],29,4,68⟩] [45,44,43,42,41,40,39,38,37,36,35,34,33,32,31,30,29,28,27,26,25,24,23,22,21,20,19,18,17,16,15,14,13,12,11,10,9,8,7,6,5,2,4,3,1,0] rfl kr (fun cx => ?_)
 exact mD K6x12 [2] [] _ kr kr rfl
theorem laws_FnNetworksBent_D2 (n : Nat) (r3 : Vtab) (r2 : Int) (r11 : Bool) (r10 : Vtab × Bool) (r9 : Vtab × Bool) (r7 : Vtab × Bool) (r6 : Vtab × Bool) (r4 : Vtab × Int) (r12 : Bool) (r13 : Bool) (er11 : (impl_VtabOkF n r3 r2) = some r11) (h2 : (decide (r2 ≥ 1)) = false) (h3 : (r11 == false) = true) (er12 : (impl_VtabOkF n r4.1 r4.2) = some r12) (er13 : (spec_VtabOkF n r4.1 r4.2) = some r13) (h4 : (r12 == r13) = false) (cx : Cx) : AT Try.prog cx (rg Try.f6 12) [] 46 [] ⟨113,0,[sB 19 r10.2,sA 18 18 2 0,sB 17 r9.2,sA 16 16 2 0,sB 12 r7.2,sA 11 11 2 0,sB 10 r6.2,sA 9 9 2 0,sI 6 r4.2,sA 5 5 2 0,sA 4 4 2 0,sI 3 r2],[(18,(Vtab.row r10.1)),(16,(Vtab.row r9.1)),(11,(Vtab.row r7.1)),(9,(Vtab.row r6.1)),(5,(Vtab.row r4.1)),(4,(Vtab.row r3))]⟩ (fun s => s = ⟨113,0,[sB 2 false],[]⟩) := by
 refine mU tOk K6x12 [(0,[2,13,16]),(1,[]),(3,[]),(4,[])] 42 [⟨[2,13,16],29,4,68⟩] [4,3,1,0] rfl kr (fun cx => ?_)
 refine mB1 tOk K6x12 2 kr kr ?_
 refine lV tOk [.rd,.rd] [.box 4] (impl_VtabOk n r3 r2 r11 er11) kr kr kr kr (.inr (rets_cons (mine_cons mine_lit mine_nil) rets_nil)) ?_
 refine lF kr kr kr ?_
 refine mU tOk K6x12 [(5,[])] 40 [⟨[2,13,16],29,4,68⟩] [5,2,4,3,1,0] rfl kr (fun cx => ?_)
 refine aT ⟨113,0,[sB 73 (decide (r2 ≥ 1)),sB 70 r11,sB 72 (decide (r2 ≥ 1)),sI 71 r2,sI 69 r2,sR 68 4 2 0 2 true,sB 19 r10.2,sA 18 18 2 0,sB 17 r9.2,sA 16 16 2 0,sB 12 r7.2,sA 11 11 2 0,sB 10 r6.2,sA 9 9 2 0,sI 6 r4.2,sA 5 5 2 0,sA 4 4 2 0,sI 3 r2],[(18,(Vtab.row r10.1)),(16,(Vtab.row r9.1)),(11,(Vtab.row r7.1)),(9,(Vtab.row r6.1)),(5,(Vtab.row r4.1)),(4,(Vtab.row r3))]⟩ kr ?_
 rw [h2]
 refine mU tOk K6x12 [(6,[]),(7,[]),(8,[]),(9,[]),(10,[])] 35 [⟨[2,13,16],29,4,68⟩] [10,9,8,7,6,5,2,4,3,1,0] rfl kr (fun cx => ?_)
 refine aT ⟨113,0,[sB 78 (r11 == false),sB 77 (r11 == false),sB 76 false,(75,.tup []),(74,.tup []),sB 73 false,sB 70 r11,sB 72 false,sI 71 r2,sI 69 r2,sR 68 4 2 0 2 true,sB 19 r10.2,sA 18 18 2 0,sB 17 r9.2,sA 16 16 2 0,sB 12 r7.2,sA 11 11 2 0,sB 10 r6.2,sA 9 9 2 0,sI 6 r4.2,sA 5 5 2 0,sA 4 4 2 0,sI 3 r2],[(18,(Vtab.row r10.1)),(16,(Vtab.row r9.1)),(11,(Vtab.row r7.1)),(9,(Vtab.row r6.1)),(5,(Vtab.row r4.1)),(4,(Vtab.row r3))]⟩ kr ?_
 rw [h3]
 refine mU tOk K6x12 [(11,[13,16]),(12,[]),(14,[16]),(15,[])] 31 [⟨[16],29,5,82⟩,⟨[13,16],29,5,79⟩,⟨[2,13,16],29,4,68⟩] [15,14,12,11,10,9,8,7,6,5,2,4,3,1,0] rfl kr (fun cx => ?_)
 refine mB1 tOk K6x12 13 kr kr ?_
 refine lV tOk [.rd,.rd] [.box 5] (impl_VtabOk n r4.1 r4.2 r12 er12) kr kr kr kr (.inr (rets_cons (mine_cons mine_lit mine_nil) rets_nil)) ?_
 refine lF kr kr kr ?_
 refine mB1 tOk K6x12 16 kr kr ?_
 refine lV tOk [.rd,.rd] [.box 5] (spec_VtabOk n r4.1 r4.2 r13 er13) kr kr kr kr (.inr (rets_cons (mine_cons mine_lit mine_nil) rets_nil)) ?_
 refine lF kr kr kr ?_
 refine mU tOk K6x12 [(17,[]),(18,[]),(19,[])] 26 [⟨[16],29,5,82⟩,⟨[13,16],29,5,79⟩,⟨[2,13,16],29,4,68⟩] [19,18,17,16,13,15,14,12,11,10,9,8,7,6,5,2,4,3,1,0] rfl kr (fun cx => ?_)
 refine aT ⟨113,0,[sB 87 (r12 == r13),sB 86 (r12 == r13),sB 85 (r12 == r13),sB 84 r13,sB 81 r12,sI 83 r4.2,sR 82 5 2 0 2 true,sI 80 r4.2,sR 79 5 2 0 2 true,sB 78 true,sB 77 true,sB 76 false,(75,.tup []),(74,.tup []),sB 73 false,sB 70 r11,sB 72 false,sI 71 r2,sI 69 r2,sR 68 4 2 0 2 true,sB 19 r10.2,sA 18 18 2 0,sB 17 r9.2,sA 16 16 2 0,sB 12 r7.2,sA 11 11 2 0,sB 10 r6.2,sA 9 9 2 0,sI 6 r4.2,sA 5 5 2 0,sA 4 4 2 0,sI 3 r2],[(18,(Vtab.row r10.1)),(16,(Vtab.row r9.1)),(11,(Vtab.row r7.1)),(9,(Vtab.row r6.1)),(5,(Vtab.row r4.1)),(4,(Vtab.row r3))]⟩ kr ?_
 rw [h4]
 refine mU tOk K6x12 [(20,[]),(21,[]),(22,[]),(23,[]),(24,[]),(25,[]),(26,[]),(27,[]),(28,[]),(29,[]),(30,[]),(31,[]),(32,[]),(33,[]),(34,[]),(35,[]),(36,[]),(37,[]),(38,[]),(39,[]),(40,[]),(41,[]),(42,[]),(43,[]),(44,[]),(45,[])] 0 [⟨[16],29,5,82⟩,⟨[13,16],29,5,79⟩,⟨[2,13,16],29,4,68⟩] [45,44,43,42,41,40,39,38,37,36,35,34,33,32,31,30,29,28,27,26,25,24,23,22,21,20,19,18,17,16,13,15,14,12,11,10,9,8,7,6,5,2,4,3,1,0] rfl kr (fun cx => ?_)
 exact mD K6x12 [2] [] _ kr kr rfl
theorem laws_FnNetworksBent_D3 (n : Nat) (r7 : Vtab × Bool) (r6 : Vtab × Bool) (r13 : Bool) (r12 : Bool) (r4 : Vtab × Int) (r11 : Bool) (r2 : Int) (r10 : Vtab × Bool) (r9 : Vtab × Bool) (r3 : Vtab) (cx : Cx) : AT Try.prog cx (rg Try.f6 12) [⟨[16],29,5,82⟩,⟨[13,16],29,5,79⟩,⟨[2,13,16],29,4,68⟩] 21 [24,23,22,21,20,19,18,17,16,13,15,14,12,11,10,9,8,7,6,5,2,4,3,1,0] ⟨113,0,[sB 92 false,sB 91 false,sB 90 false,sB 89 r7.2,sB 88 r6.2,sB 87 true,sB 86 true,sB 85 true,sB 84 r13,sB 81 r12,sI 83 r4.2,sR 82 5 2 0 2 true,sI 80 r4.2,sR 79 5 2 0 2 true,sB 78 true,sB 77 true,sB 76 false,(75,.tup []),(74,.tup []),sB 73 false,sB 70 r11,sB 72 false,sI 71 r2,sI 69 r2,sR 68 4 2 0 2 true,sB 19 r10.2,sA 18 18 2 0,sB 17 r9.2,sA 16 16 2 0,sB 12 r7.2,sA 11 11 2 0,sB 10 r6.2,sA 9 9 2 0,sI 6 r4.2,sA 5 5 2 0,sA 4 4 2 0,sI 3 r2],[(18,(Vtab.row r10.1)),(16,(Vtab.row r9.1)),(11,(Vtab.row r7.1)),(9,(Vtab.row r6.1)),(5,(Vtab.row r4.1)),(4,(Vtab.row r3))]⟩ (fun s => s = ⟨113,0,[sB 2 false],[]⟩) := by
 refine mU tOk K6x12 [(25,[]),(26,[]),(27,[]),(28,[]),(29,[]),(30,[]),(31,[]),(32,[]),(33,[]),(34,[]),(35,[]),(36,[]),(37,[]),(38,[]),(39,[]),(40,[]),(41,[]),(42,[]),(43,[]),(44,[]),(45,[])] 0 [⟨[16],29,5,82⟩,⟨[13,16],29,5,79⟩,⟨[2,13,16],29,4,68⟩] [45,44,43,42,41,40,39,38,37,36,35,34,33,32,31,30,29,28,27,26,25,24,23,22,21,20,19,18,17,16,13,15,14,12,11,10,9,8,7,6,5,2,4,3,1,0] rfl kr (fun cx => ?_)
 exact mD K6x12 [2] [] _ kr kr rfl
theorem laws_FnNetworksBent_D4 (n : Nat) (r3 : Vtab) (r2 : Int) (r11 : Bool) (r10 : Vtab × Bool) (r9 : Vtab × Bool) (r7 : Vtab × Bool) (r6 : Vtab × Bool) (r4 : Vtab × Int) (r12 : Bool) (r13 : Bool) (er11 : (impl_VtabOkF n r3 r2) = some r11) (h2 : (decide (r2 ≥ 1)) = false) (h3 : (r11 == false) = true) (er12 : (impl_VtabOkF n r4.1 r4.2) = some r12) (er13 : (spec_VtabOkF n r4.1 r4.2) = some r13) (h4 : (r12 == r13) = true) (h5 : (r6.2 == r7.2) = false) (cx : Cx) : AT Try.prog cx (rg Try.f6 12) [] 46 [] ⟨113,0,[sB 19 r10.2,sA 18 18 2 0,sB 17 r9.2,sA 16 16 2 0,sB 12 r7.2,sA 11 11 2 0,sB 10 r6.2,sA 9 9 2 0,sI 6 r4.2,sA 5 5 2 0,sA 4 4 2 0,sI 3 r2],[(18,(Vtab.row r10.1)),(16,(Vtab.row r9.1)),(11,(Vtab.row r7.1)),(9,(Vtab.row r6.1)),(5,(Vtab.row r4.1)),(4,(Vtab.row r3))]⟩ (fun s => s = ⟨113,0,[sB 2 false],[]⟩) := by
 refine mU tOk K6x12 [(0,[2,13,16]),(1,[]),(3,[]),(4,[])] 42 [⟨[2,13,16],29,4,68⟩] [4,3,1,0] rfl kr (fun cx => ?_)
 refine mB1 tOk K6x12 2 kr kr ?_
 refine lV tOk [.rd,.rd] [.box 4] (impl_VtabOk n r3 r2 r11 er11) kr kr kr kr (.inr (rets_cons (mine_cons mine_lit mine_nil) rets_nil)) ?_
 refine lF kr kr kr ?_
 refine mU tOk K6x12 [(5,[])] 40 [⟨[2,13,16],29,4,68⟩] [5,2,4,3,1,0] rfl kr (fun cx => ?_)
 refine aT ⟨113,0,[sB 73 (decide (r2 ≥ 1)),sB 70 r11,sB 72 (decide (r2 ≥ 1)),sI 71 r2,sI 69 r2,sR 68 4 2 0 2 true,sB 19 r10.2,sA 18 18 2 0,sB 17 r9.2,sA 16 16 2 0,sB 12 r7.2,sA 11 11 2 0,sB 10 r6.2,sA 9 9 2 0,sI 6 r4.2,sA 5 5 2 0,sA 4 4 2 0,sI 3 r2],[(18,(Vtab.row r10.1)),(16,(Vtab.row r9.1)),(11,(Vtab.row r7.1)),(9,(Vtab.row r6.1)),(5,(Vtab.row r4.1)),(4,(Vtab.row r3))]⟩ kr ?_
 rw [h2]
 refine mU tOk K6x12 [(6,[]),(7,[]),(8,[]),(9,[]),(10,[])] 35 [⟨[2,13,16],29,4,68⟩] [10,9,8,7,6,5,2,4,3,1,0] rfl kr (fun cx => ?_)
 refine aT ⟨113,0,[sB 78 (r11 == false),sB 77 (r11 == false),sB 76 false,(75,.tup []),(74,.tup []),sB 73 false,sB 70 r11,sB 72 false,sI 71 r2,sI 69 r2,sR 68 4 2 0 2 true,sB 19 r10.2,sA 18 18 2 0,sB 17 r9.2,sA 16 16 2 0,sB 12 r7.2,sA 11 11 2 0,sB 10 r6.2,sA 9 9 2 0,sI 6 r4.2,sA 5 5 2 0,sA 4 4 2 0,sI 3 r2],[(18,(Vtab.row r10.1)),(16,(Vtab.row r9.1)),(11,(Vtab.row r7.1)),(9,(Vtab.row r6.1)),(5,(Vtab.row r4.1)),(4,(Vtab.row r3))]⟩ kr ?_
 rw [h3]
 refine mU tOk K6x12 [(11,[13,16]),(12,[]),(14,[16]),(15,[])] 31 [⟨[16],29,5,82⟩,⟨[13,16],29,5,79⟩,⟨[2,13,16],29,4,68⟩] [15,14,12,11,10,9,8,7,6,5,2,4,3,1,0] rfl kr (fun cx => ?_)
 refine mB1 tOk K6x12 13 kr kr ?_
 refine lV tOk [.rd,.rd] [.box 5] (impl_VtabOk n r4.1 r4.2 r12 er12) kr kr kr kr (.inr (rets_cons (mine_cons mine_lit mine_nil) rets_nil)) ?_
 refine lF kr kr kr ?_
 refine mB1 tOk K6x12 16 kr kr ?_
 refine lV tOk [.rd,.rd] [.box 5] (spec_VtabOk n r4.1 r4.2 r13 er13) kr kr kr kr (.inr (rets_cons (mine_cons mine_lit mine_nil) rets_nil)) ?_
 refine lF kr kr kr ?_
 refine mU tOk K6x12 [(17,[]),(18,[]),(19,[])] 26 [⟨[16],29,5,82⟩,⟨[13,16],29,5,79⟩,⟨[2,13,16],29,4,68⟩] [19,18,17,16,13,15,14,12,11,10,9,8,7,6,5,2,4,3,1,0] rfl kr (fun cx => ?_)
 refine aT ⟨113,0,[sB 87 (r12 == r13),sB 86 (r12 == r13),sB 85 (r12 == r13),sB 84 r13,sB 81 r12,sI 83 r4.2,sR 82 5 2 0 2 true,sI 80 r4.2,sR 79 5 2 0 2 true,sB 78 true,sB 77 true,sB 76 false,(75,.tup []),(74,.tup []),sB 73 false,sB 70 r11,sB 72 false,sI 71 r2,sI 69 r2,sR 68 4 2 0 2 true,sB 19 r10.2,sA 18 18 2 0,sB 17 r9.2,sA 16 16 2 0,sB 12 r7.2,sA 11 11 2 0,sB 10 r6.2,sA 9 9 2 0,sI 6 r4.2,sA 5 5 2 0,sA 4 4 2 0,sI 3 r2],[(18,(Vtab.row r10.1)),(16,(Vtab.row r9.1)),(11,(Vtab.row r7.1)),(9,(Vtab.row r6.1)),(5,(Vtab.row r4.1)),(4,(Vtab.row r3))]⟩ kr ?_
 rw [h4]
 refine mU tOk K6x12 [(20,[]),(21,[]),(22,[]),(23,[]),(24,[])] 21 [⟨[16],29,5,82⟩,⟨[13,16],29,5,79⟩,⟨[2,13,16],29,4,68⟩] [24,23,22,21,20,19,18,17,16,13,15,14,12,11,10,9,8,7,6,5,2,4,3,1,0] rfl kr (fun cx => ?_)
 refine aT ⟨113,0,[sB 92 (r6.2 == r7.2),sB 91 (r6.2 == r7.2),sB 90 (r6.2 == r7.2),sB 89 r7.2,sB 88 r6.2,sB 87 true,sB 86 true,sB 85 true,sB 84 r13,sB 81 r12,sI 83 r4.2,sR 82 5 2 0 2 true,sI 80 r4.2,sR 79 5 2 0 2 true,sB 78 true,sB 77 true,sB 76 false,(75,.tup []),(74,.tup []),sB 73 false,sB 70 r11,sB 72 false,sI 71 r2,sI 69 r2,sR 68 4 2 0 2 true,sB 19 r10.2,sA 18 18 2 0,sB 17 r9.2,sA 16 16 2 0,sB 12 r7.2,sA 11 11 2 0,sB 10 r6.2,sA 9 9 2 0,sI 6 r4.2,sA 5 5 2 0,sA 4 4 2 0,sI 3 r2],[(18,(Vtab.row r10.1)),(16,(Vtab.row r9.1)),(11,(Vtab.row r7.1)),(9,(Vtab.row r6.1)),(5,(Vtab.row r4.1)),(4,(Vtab.row r3))]⟩ kr ?_
 rw [h5]
 refine aT ⟨113,0,[sB 92 false,sB 91 false,sB 90 false,sB 89 r7.2,sB 88 r6.2,sB 87 true,sB 86 true,sB 85 true,sB 84 r13,sB 81 r12,sI 83 r4.2,sR 82 5 2 0 2 true,sI 80 r4.2,sR 79 5 2 0 2 true,sB 78 true,sB 77 true,sB 76 false,(75,.tup []),(74,.tup []),sB 73 false,sB 70 r11,sB 72 false,sI 71 r2,sI 69 r2,sR 68 4 2 0 2 true,sB 19 r10.2,sA 18 18 2 0,sB 17 r9.2,sA 16 16 2 0,sB 12 r7.2,sA 11 11 2 0,sB 10 r6.2,sA 9 9 2 0,sI 6 r4.2,sA 5 5 2 0,sA 4 4 2 0,sI 3 r2],[(18,(Vtab.row r10.1)),(16,(Vtab.row r9.1)),(11,(Vtab.row r7.1)),(9,(Vtab.row r6.1)),(5,(Vtab.row r4.1)),(4,(Vtab.row r3))]⟩ kr ?_
 exact laws_FnNetworksBent_D3 n r7 r6 r13 r12 r4 r11 r2 r10 r9 r3 cx
theorem laws_FnNetworksBent_D5 (n : Nat) (r9 : Vtab × Bool) (r10 : Vtab × Bool) (r7 : Vtab × Bool) (r6 : Vtab × Bool) (r13 : Bool) (r12 : Bool) (r4 : Vtab × Int) (r11 : Bool) (r2 : Int) (r3 : Vtab) (h6 : (r9.2 == r10.2) = false) (cx : Cx) : AT Try.prog cx (rg Try.f6 12) [⟨[16],29,5,82⟩,⟨[13,16],29,5,79⟩,⟨[2,13,16],29,4,68⟩] 21 [24,23,22,21,20,19,18,17,16,13,15,14,12,11,10,9,8,7,6,5,2,4,3,1,0] ⟨113,0,[sB 92 true,sB 91 true,sB 90 true,sB 89 r7.2,sB 88 r6.2,sB 87 true,sB 86 true,sB 85 true,sB 84 r13,sB 81 r12,sI 83 r4.2,sR 82 5 2 0 2 true,sI 80 r4.2,sR 79 5 2 0 2 true,sB 78 true,sB 77 true,sB 76 false,(75,.tup []),(74,.tup []),sB 73 false,sB 70 r11,sB 72 false,sI 71 r2,sI 69 r2,sR 68 4 2 0 2 true,sB 19 r10.2,sA 18 18 2 0,sB 17 r9.2,sA 16 16 2 0,sB 12 r7.2,sA 11 11 2 0,sB 10 r6.2,sA 9 9 2 0,sI 6 r4.2,sA 5 5 2 0,sA 4 4 2 0,sI 3 r2],[(18,(Vtab.row r10.1)),(16,(Vtab.row r9.1)),(11,(Vtab.row r7.1)),(9,(Vtab.row r6.1)),(5,(Vtab.row r4.1)),(4,(Vtab.row r3))]⟩ (fun s => s = ⟨113,0,[sB 2 false],[]⟩) := by
 refine mU tOk K6x12 [(25,[]),(26,[]),(27,[]),(28,[]),(29,[])] 16 [⟨[16],29,5,82⟩,⟨[13,16],29,5,79⟩,⟨[2,13,16],29,4,68⟩] [29,28,27,26,25,24,23,22,21,20,19,18,17,16,13,15,14,12,11,10,9,8,7,6,5,2,4,3,1,0] rfl kr (fun cx => ?_)
 refine aT ⟨113,0,[sB 97 (r9.2 == r10.2),sB 96 (r9.2 == r10.2),sB 95 (r9.2 == r10.2),sB 94 r10.2,sB 93 r9.2,sB 92 true,sB 91 true,sB 90 true,sB 89 r7.2,sB 88 r6.2,sB 87 true,sB 86 true,sB 85 true,sB 84 r13,sB 81 r12,sI 83 r4.2,sR 82 5 2 0 2 true,sI 80 r4.2,sR 79 5 2 0 2 true,sB 78 true,sB 77 true,sB 76 false,(75,.tup []),(74,.tup []),sB 73 false,sB 70 r11,sB 72 false,sI 71 r2,sI 69 r2,sR 68 4 2 0 2 true,sB 19 r10.2,sA 18 18 2 0,sB 17 r9.2,sA 16 16 2 0,sB 12 r7.2,sA 11 11 2 0,sB 10 r6.2,sA 9 9 2 0,sI 6 r4.2,sA 5 5 2 0,sA 4 4 2 0,sI 3 r2],[(18,(Vtab.row r10.1)),(16,(Vtab.row r9.1)),(11,(Vtab.row r7.1)),(9,(Vtab.row r6.1)),(5,(Vtab.row r4.1)),(4,(Vtab.row r3))]⟩ kr ?_
 rw [h6]
 refine mU tOk K6x12 [(30,[]),(31,[]),(32,[]),(33,[]),(34,[]),(35,[]),(36,[]),(37,[]),(38,[]),(39,[]),(40,[]),(41,[]),(42,[]),(43,[]),(44,[]),(45,[])] 0 [⟨[16],29,5,82⟩,⟨[13,16],29,5,79⟩,⟨[2,13,16],29,4,68⟩] [45,44,43,42,41,40,39,38,37,36,35,34,33,32,31,30,29,28,27,26,25,24,23,22,21,20,19,18,17,16,13,15,14,12,11,10,9,8,7,6,5,2,4,3,1,0] rfl kr (fun cx => ?_)
 exact mD K6x12 [2] [] _ kr kr rfl
theorem laws_FnNetworksBent_D6 (n : Nat) (r3 : Vtab) (r2 : Int) (r11 : Bool) (r10 : Vtab × Bool) (r9 : Vtab × Bool) (r7 : Vtab × Bool) (r6 : Vtab × Bool) (r4 : Vtab × Int) (r12 : Bool) (r13 : Bool) (er11 : (impl_VtabOkF n r3 r2) = some r11) (h2 : (decide (r2 ≥ 1)) = false) (h3 : (r11 == false) = true) (er12 : (impl_VtabOkF n r4.1 r4.2) = some r12) (er13 : (spec_VtabOkF n r4.1 r4.2) = some r13) (h4 : (r12 == r13) = true) (h5 : (r6.2 == r7.2) = true) (h6 : (r9.2 == r10.2) = false) (cx : Cx) : AT Try.prog cx (rg Try.f6 12) [] 46 [] ⟨113,0,[sB 19 r10.2,sA 18 18 2 0,sB 17 r9.2,sA 16 16 2 0,sB 12 r7.2,sA 11 11 2 0,sB 10 r6.2,sA 9 9 2 0,sI 6 r4.2,sA 5 5 2 0,sA 4 4 2 0,sI 3 r2],[(18,(Vtab.row r10.1)),(16,(Vtab.row r9.1)),(11,(Vtab.row r7.1)),(9,(Vtab.row r6.1)),(5,(Vtab.row r4.1)),(4,(Vtab.row r3))]⟩ (fun s => s = ⟨113,0,[sB 2 false],[]⟩) := by
 refine mU tOk K6x12 [(0,[2,13,16]),(1,[]),(3,[]),(4,[])] 42 [⟨[2,13,16],29,4,68⟩] [4,3,1,0] rfl kr (fun cx => ?_)
 refine mB1 tOk K6x12 2 kr kr ?_
 refine lV tOk [.rd,.rd] [.box 4] (impl_VtabOk n r3 r2 r11 er11) kr kr kr kr (.inr (rets_cons (mine_cons mine_lit mine_nil) rets_nil)) ?_
 refine lF kr kr kr ?_
 refine mU tOk K6x12 [(5,[])] 40 [⟨[2,13,16],29,4,68⟩] [5,2,4,3,1,0] rfl kr (fun cx => ?_)
 refine aT ⟨113,0,[sB 73 (decide (r2 ≥ 1)),sB 70 r11,sB 72 (decide (r2 ≥ 1)),sI 71 r2,sI 69 r2,sR 68 4 2 0 2 true,sB 19 r10.2,sA 18 18 2 0,sB 17 r9.2,sA 16 16 2 0,sB 12 r7.2,sA 11 11 2 0,sB 10 r6.2,sA 9 9 2 0,sI 6 r4.2,sA 5 5 2 0,sA 4 4 2 0,sI 3 r2],[(18,(Vtab.row r10.1)),(16,(Vtab.row r9.1)),(11,(Vtab.row r7.1)),(9,(Vtab.row r6.1)),(5,(Vtab.row r4.1)),(4,(Vtab.row r3))]⟩ kr ?_
 rw [h2]
 refine mU tOk K6x12 [(6,[]),(7,[]),(8,[]),(9,[]),(10,[])] 35 [⟨[2,13,16],29,4,68⟩] [10,9,8,7,6,5,2,4,3,1,0] rfl kr (fun cx => ?_)
 refine aT ⟨113,0,[sB 78 (r11 == false),sB 77 (r11 == false),sB 76 false,(75,.tup []),(74,.tup []),sB 73 false,sB 70 r11,sB 72 false,sI 71 r2,sI 69 r2,sR 68 4 2 0 2 true,sB 19 r10.2,sA 18 18 2 0,sB 17 r9.2,sA 16 16 2 0,sB 12 r7.2,sA 11 11 2 0,sB 10 r6.2,sA 9 9 2 0,sI 6 r4.2,sA 5 5 2 0,sA 4 4 2 0,sI 3 r2],[(18,(Vtab.row r10.1)),(16,(Vtab.row r9.1)),(11,(Vtab.row r7.1)),(9,(Vtab.row r6.1)),(5,(Vtab.row r4.1)),(4,(Vtab.row r3))]⟩ kr ?_
 rw [h3]
 refine mU tOk K6x12 [(11,[13,16]),(12,[]),(14,[16]),(15,[])] 31 [⟨[16],29,5,82⟩,⟨[13,16],29,5,79⟩,⟨[2,13,16],29,4,68⟩] [15,14,12,11,10,9,8,7,6,5,2,4,3,1,0] rfl kr (fun cx => ?_)
 refine mB1 tOk K6x12 13 kr kr ?_
 refine lV tOk [.rd,.rd] [.box 5] (impl_VtabOk n r4.1 r4.2 r12 er12) kr kr kr kr (.inr (rets_cons (mine_cons mine_lit mine_nil) rets_nil)) ?_
 refine lF kr kr kr ?_
 refine mB1 tOk K6x12 16 kr kr ?_
 refine lV tOk [.rd,.rd] [.box 5] (spec_VtabOk n r4.1 r4.2 r13 er13) kr kr kr kr (.inr (rets_cons (mine_cons mine_lit mine_nil) rets_nil)) ?_
 refine lF kr kr kr ?_
 refine mU tOk K6x12 [(17,[]),(18,[]),(19,[])] 26 [⟨[16],29,5,82⟩,⟨[13,16],29,5,79⟩,⟨[2,13,16],29,4,68⟩] [19,18,17,16,13,15,14,12,11,10,9,8,7,6,5,2,4,3,1,0] rfl kr (fun cx => ?_)
 refine aT ⟨113,0,[sB 87 (r12 == r13),sB 86 (r12 == r13),sB 85 (r12 == r13),sB 84 r13,sB 81 r12,sI 83 r4.2,sR 82 5 2 0 2 true,sI 80 r4.2,sR 79 5 2 0 2 true,sB 78 true,sB 77 true,sB 76 false,(75,.tup []),(74,.tup []),sB 73 false,sB 70 r11,sB 72 false,sI 71 r2,sI 69 r2,sR 68 4 2 0 2 true,sB 19 r10.2,sA 18 18 2 0,sB 17 r9.2,sA 16 16 2 0,sB 12 r7.2,sA 11 11 2 0,sB 10 r6.2,sA 9 9 2 0,sI 6 r4.2,sA 5 5 2 0,sA 4 4 2 0,sI 3 r2],[(18,(Vtab.row r10.1)),(16,(Vtab.row r9.1)),(11,(Vtab.row r7.1)),(9,(Vtab.row r6.1)),(5,(Vtab.row r4.1)),(4,(Vtab.row r3))]⟩ kr ?_
 rw [h4]
 refine mU tOk K6x12 [(20,[]),(21,[]),(22,[]),(23,[]),(24,[])] 21 [⟨[16],29,5,82⟩,⟨[13,16],29,5,79⟩,⟨[2,13,16],29,4,68⟩] [24,23,22,21,20,19,18,17,16,13,15,14,12,11,10,9,8,7,6,5,2,4,3,1,0] rfl kr (fun cx => ?_)
 refine aT ⟨113,0,[sB 92 (r6.2 == r7.2),sB 91 (r6.2 == r7.2),sB 90 (r6.2 == r7.2),sB 89 r7.2,sB 88 r6.2,sB 87 true,sB 86 true,sB 85 true,sB 84 r13,sB 81 r12,sI 83 r4.2,sR 82 5 2 0 2 true,sI 80 r4.2,sR 79 5 2 0 2 true,sB 78 true,sB 77 true,sB 76 false,(75,.tup []),(74,.tup []),sB 73 false,sB 70 r11,sB 72 false,sI 71 r2,sI 69 r2,sR 68 4 2 0 2 true,sB 19 r10.2,sA 18 18 2 0,sB 17 r9.2,sA 16 16 2 0,sB 12 r7.2,sA 11 11 2 0,sB 10 r6.2,sA 9 9 2 0,sI 6 r4.2,sA 5 5 2 0,sA 4 4 2 0,sI 3 r2],[(18,(Vtab.row r10.1)),(16,(Vtab.row r9.1)),(11,(Vtab.row r7.1)),(9,(Vtab.row r6.1)),(5,(Vtab.row r4.1)),(4,(Vtab.row r3))]⟩ kr ?_
 rw [h5]
 refine aT ⟨113,0,[sB 92 true,sB 91 true,sB 90 true,sB 89 r7.2,sB 88 r6.2,sB 87 true,sB 86 true,sB 85 true,sB 84 r13,sB 81 r12,sI 83 r4.2,sR 82 5 2 0 2 true,sI 80 r4.2,sR 79 5 2 0 2 true,sB 78 true,sB 77 true,sB 76 false,(75,.tup []),(74,.tup []),sB 73 false,sB 70 r11,sB 72 false,sI 71 r2,sI 69 r2,sR 68 4 2 0 2 true,sB 19 r10.2,sA 18 18 2 0,sB 17 r9.2,sA 16 16 2 0,sB 12 r7.2,sA 11 11 2 0,sB 10 r6.2,sA 9 9 2 0,sI 6 r4.2,sA 5 5 2 0,sA 4 4 2 0,sI 3 r2],[(18,(Vtab.row r10.1)),(16,(Vtab.row r9.1)),(11,(Vtab.row r7.1)),(9,(Vtab.row r6.1)),(5,(Vtab.row r4.1)),(4,(Vtab.row r3))]⟩ kr ?_
 exact laws_FnNetworksBent_D5 n r9 r10 r7 r6 r13 r12 r4 r11 r2 r3 h6 cx
theorem laws_FnNetworksBent_D7 (n : Nat) (r9 : Vtab × Bool) (r10 : Vtab × Bool) (r7 : Vtab × Bool) (r6 : Vtab × Bool) (r13 : Bool) (r12 : Bool) (r4 : Vtab × Int) (r11 : Bool) (r2 : Int) (r3 : Vtab) (r14 : Bool) (h6 : (r9.2 == r10.2) = true) (er14 : (laws_sameVtabF n r6.1 r7.1) = some r14) (h7 : r14 = false) (cx : Cx) : AT Try.prog cx (rg Try.f6 12) [⟨[16,32],29,5,82⟩,⟨[13,16,32],29,5,79⟩,⟨[2,13,16,32],29,4,68⟩] 21 [24,23,22,21,20,19,18,17,16,13,15,14,12,11,10,9,8,7,6,5,2,4,3,1,0] ⟨113,0,[sB 92 true,sB 91 true,sB 90 true,sB 89 r7.2,sB 88 r6.2,sB 87 true,sB 86 true,sB 85 true,sB 84 r13,sB 81 r12,sI 83 r4.2,sR 82 5 2 0 2 true,sI 80 r4.2,sR 79 5 2 0 2 true,sB 78 true,sB 77 true,sB 76 false,(75,.tup []),(74,.tup []),sB 73 false,sB 70 r11,sB 72 false,sI 71 r2,sI 69 r2,sR 68 4 2 0 2 true,sB 19 r10.2,sA 18 18 2 0,sB 17 r9.2,sA 16 16 2 0,sB 12 r7.2,sA 11 11 2 0,sB 10 r6.2,sA 9 9 2 0,sI 6 r4.2,sA 5 5 2 0,sA 4 4 2 0,sI 3 r2],[(18,(Vtab.row r10.1)),(16,(Vtab.row r9.1)),(11,(Vtab.row r7.1)),(9,(Vtab.row r6.1)),(5,(Vtab.row r4.1)),(4,(Vtab.row r3))]⟩ (fun s => s = ⟨113,0,[sB 2 false],[]⟩) := by
 refine mU tOk K6x12 [(25,[]),(26,[]),(27,[]),(28,[]),(29,[])] 16 [⟨[16,32],29,5,82⟩,⟨[13,16,32],29,5,79⟩,⟨[2,13,16,32],29,4,68⟩] [29,28,27,26,25,24,23,22,21,20,19,18,17,16,13,15,14,12,11,10,9,8,7,6,5,2,4,3,1,0] rfl kr (fun cx => ?_)
 refine aT ⟨113,0,[sB 97 (r9.2 == r10.2),sB 96 (r9.2 == r10.2),sB 95 (r9.2 == r10.2),sB 94 r10.2,sB 93 r9.2,sB 92 true,sB 91 true,sB 90 true,sB 89 r7.2,sB 88 r6.2,sB 87 true,sB 86 true,sB 85 true,sB 84 r13,sB 81 r12,sI 83 r4.2,sR 82 5 2 0 2 true,sI 80 r4.2,sR 79 5 2 0 2 true,sB 78 true,sB 77 true,sB 76 false,(75,.tup []),(74,.tup []),sB 73 false,sB 70 r11,sB 72 false,sI 71 r2,sI 69 r2,sR 68 4 2 0 2 true,sB 19 r10.2,sA 18 18 2 0,sB 17 r9.2,sA 16 16 2 0,sB 12 r7.2,sA 11 11 2 0,sB 10 r6.2,sA 9 9 2 0,sI 6 r4.2,sA 5 5 2 0,sA 4 4 2 0,sI 3 r2],[(18,(Vtab.row r10.1)),(16,(Vtab.row r9.1)),(11,(Vtab.row r7.1)),(9,(Vtab.row r6.1)),(5,(Vtab.row r4.1)),(4,(Vtab.row r3))]⟩ kr ?_
 rw [h6]
 refine mU tOk K6x12 [(30,[32]),(31,[32])] 14 [⟨[32],29,11,99⟩,⟨[32],29,9,98⟩,⟨[16,32],29,5,82⟩,⟨[13,16,32],29,5,79⟩,⟨[2,13,16,32],29,4,68⟩] [31,30,29,28,27,26,25,24,23,22,21,20,19,18,17,16,13,15,14,12,11,10,9,8,7,6,5,2,4,3,1,0] rfl kr (fun cx => ?_)
 refine mB1 tOk K6x12 32 kr kr ?_
 refine lV tOk [.rd,.rd] [.box 9,.box 11] (laws_sameVtab n r6.1 r7.1 r14 er14) kr kr kr kr (.inr (rets_cons (mine_cons mine_lit mine_nil) rets_nil)) ?_
 refine lF kr kr kr ?_
 refine mU tOk K6x12 [(33,[]),(34,[])] 11 [⟨[32],29,11,99⟩,⟨[32],29,9,98⟩,⟨[16,32],29,5,82⟩,⟨[13,16,32],29,5,79⟩,⟨[2,13,16,32],29,4,68⟩] [34,33,32,31,30,29,28,27,26,25,24,23,22,21,20,19,18,17,16,13,15,14,12,11,10,9,8,7,6,5,2,4,3,1,0] rfl kr (fun cx => ?_)
 refine aT ⟨113,0,[sB 102 r14,sB 101 r14,sB 100 r14,sR 99 11 2 0 2 true,sR 98 9 2 0 2 true,sB 97 true,sB 96 true,sB 95 true,sB 94 r10.2,sB 93 r9.2,sB 92 true,sB 91 true,sB 90 true,sB 89 r7.2,sB 88 r6.2,sB 87 true,sB 86 true,sB 85 true,sB 84 r13,sB 81 r12,sI 83 r4.2,sR 82 5 2 0 2 true,sI 80 r4.2,sR 79 5 2 0 2 true,sB 78 true,sB 77 true,sB 76 false,(75,.tup []),(74,.tup []),sB 73 false,sB 70 r11,sB 72 false,sI 71 r2,sI 69 r2,sR 68 4 2 0 2 true,sB 19 r10.2,sA 18 18 2 0,sB 17 r9.2,sA 16 16 2 0,sB 12 r7.2,sA 11 11 2 0,sB 10 r6.2,sA 9 9 2 0,sI 6 r4.2,sA 5 5 2 0,sA 4 4 2 0,sI 3 r2],[(18,(Vtab.row r10.1)),(16,(Vtab.row r9.1)),(11,(Vtab.row r7.1)),(9,(Vtab.row r6.1)),(5,(Vtab.row r4.1)),(4,(Vtab.row r3))]⟩ kr ?_
 rw [h7]
 refine mU tOk K6x12 [(35,[]),(36,[]),(37,[]),(38,[]),(39,[]),(40,[]),(41,[]),(42,[]),(43,[]),(44,[]),(45,[])] 0 [⟨[32],29,11,99⟩,⟨[32],29,9,98⟩,⟨[16,32],29,5,82⟩,⟨[13,16,32],29,5,79⟩,⟨[2,13,16,32],29,4,68⟩] [45,44,43,42,41,40,39,38,37,36,35,34,33,32,31,30,29,28,27,26,25,24,23,22,21,20,19,18,17,16,13,15,14,12,11,10,9,8,7,6,5,2,4,3,1,0] rfl kr (fun cx => ?_)
 exact mD K6x12 [2] [] _ kr kr rfl
theorem laws_FnNetworksBent_D8 (n : Nat) (r3 : Vtab) (r2 : Int) (r11 : Bool) (r10 : Vtab × Bool) (r9 : Vtab × Bool) (r7 : Vtab × Bool) (r6 : Vtab × Bool) (r4 : Vtab × Int) (r12 : Bool) (r13 : Bool) (r14 : Bool) (er11 : (impl_VtabOkF n r3 r2) = some r11) (h2 : (decide (r2 ≥ 1)) = false) (h3 : (r11 == false) = true) (er12 : (impl_VtabOkF n r4.1 r4.2) = some r12) (er13 : (spec_VtabOkF n r4.1 r4.2) = some r13) (h4 : (r12 == r13) = true) (h5 : (r6.2 == r7.2) = true) (h6 : (r9.2 == r10.2) = true) (er14 : (laws_sameVtabF n r6.1 r7.1) = some r14) (h7 : r14 = false) (cx : Cx) : AT Try.prog cx (rg Try.f6 12) [] 46 [] ⟨113,0,[sB 19 r10.2,sA 18 18 2 0,sB 17 r9.2,sA 16 16 2 0,sB 12 r7.2,sA 11 11 2 0,sB 10 r6.2,sA 9 9 2 0,sI 6 r4.2,sA 5 5 2 0,sA 4 4 2 0,sI 3 r2],[(18,(Vtab.row r10.1)),(16,(Vtab.row r9.1)),(11,(Vtab.row r7.1)),(9,(Vtab.row r6.1)),(5,(Vtab.row r4.1)),(4,(Vtab.row r3))]⟩ (fun s => s = ⟨113,0,[sB 2 false],[]⟩) := by
 refine mU tOk K6x12 [(0,[2,13,16,32]),(1,[]),(3,[]),(4,[])] 42 [⟨[2,13,16,32],29,4,68⟩] [4,3,1,0] rfl kr (fun cx => ?_)
 refine mB1 tOk K6x12 2 kr kr ?_
 refine lV tOk [.rd,.rd] [.box 4] (impl_VtabOk n r3 r2 r11 er11) kr kr kr kr (.inr (rets_cons (mine_cons mine_lit mine_nil) rets_nil)) ?_
 refine lF kr kr kr ?_
 refine mU tOk K6x12 [(5,[])] 40 [⟨[2,13,16,32],29,4,68⟩] [5,2,4,3,1,0] rfl kr (fun cx => ?_)
 refine aT ⟨113,0,[sB 73 (decide (r2 ≥ 1)),sB 70 r11,sB 72 (decide (r2 ≥ 1)),sI 71 r2,sI 69 r2,sR 68 4 2 0 2 true,sB 19 r10.2,sA 18 18 2 0,sB 17 r9.2,sA 16 16 2 0,sB 12 r7.2,sA 11 11 2 0,sB 10 r6.2,sA 9 9 2 0,sI 6 r4.2,sA 5 5 2 0,sA 4 4 2 0,sI 3 r2],[(18,(Vtab.row r10.1)),(16,(Vtab.row r9.1)),(11,(Vtab.row r7.1)),(9,(Vtab.row r6.1)),(5,(Vtab.row r4.1)),(4,(Vtab.row r3))]⟩ kr ?_
 rw [h2]
 refine mU tOk K6x12 [(6,[]),(7,[]),(8,[]),(9,[]),(10,[])] 35 [⟨[2,13,16,32],29,4,68⟩] [10,9,8,7,6,5,2,4,3,1,0] rfl kr (fun cx => ?_)
 refine aT ⟨113,0,[sB 78 (r11 == false),sB 77 (r11 == false),sB 76 false,(75,.tup []),(74,.tup []),sB 73 false,sB 70 r11,sB 72 false,sI 71 r2,sI 69 r2,sR 68 4 2 0 2 true,sB 19 r10.2,sA 18 18 2 0,sB 17 r9.2,sA 16 16 2 0,sB 12 r7.2,sA 11 11 2 0,sB 10 r6.2,sA 9 9 2 0,sI 6 r4.2,sA 5 5 2 0,sA 4 4 2 0,sI 3 r2],[(18,(Vtab.row r10.1)),(16,(Vtab.row r9.1)),(11,(Vtab.row r7.1)),(9,(Vtab.row r6.1)),(5,(Vtab.row r4.1)),(4,(Vtab.row r3))]⟩ kr ?_
 rw [h3]
 refine mU tOk K6x12 [(11,[13,16,32]),(12,[]),(14,[16,32]),(15,[])] 31 [⟨[16,32],29,5,82⟩,⟨[13,16,32],29,5,79⟩,⟨[2,13,16,32],29,4,68⟩] [15,14,12,11,10,9,8,7,6,5,2,4,3,1,0] rfl kr (fun cx => ?_)
 refine mB1 tOk K6x12 13 kr kr ?_
 refine lV tOk [.rd,.rd] [.box 5] (impl_VtabOk n r4.1 r4.2 r12 er12) kr kr kr kr (.inr (rets_cons (mine_cons mine_lit mine_nil) rets_nil)) ?_
 refine lF kr kr kr ?_
 refine mB1 tOk K6x12 16 kr kr ?_
 refine lV tOk [.rd,.rd] [.box 5] (spec_VtabOk n r4.1 r4.2 r13 er13) kr kr kr kr (.inr (rets_cons (mine_cons mine_lit mine_nil) rets_nil)) ?_
 refine lF kr kr kr ?_
 refine mU tOk K6x12 [(17,[]),(18,[]),(19,[])] 26 [⟨[16,32],29,5,82⟩,⟨[13,16,32],29,5,79⟩,⟨[2,13,16,32],29,4,68⟩] [19,18,17,16,13,15,14,12,11,10,9,8,7,6,5,2,4,3,1,0] rfl kr (fun cx => ?_)
 refine aT ⟨113,0,[sB 87 (r12 == r13),sB 86 (r12 == r13),sB 85 (r12 == r13),sB 84 r13,sB 81 r12,sI 83 r4.2,sR 82 5 2 0 2 true,sI 80 r4.2,sR 79 5 2 0 2 true,sB 78 true,sB 77 true,sB 76 false,(75,.tup []),(74,.tup []),sB 73 false,sB 70 r11,sB 72 false,sI 71 r2,sI 69 r2,sR 68 4 2 0 2 true,sB 19 r10.2,sA 18 18 2 0,sB 17 r9.2,sA 16 16 2 0,sB 12 r7.2,sA 11 11 2 0,sB 10 r6.2,sA 9 9 2 0,sI 6 r4.2,sA 5 5 2 0,sA 4 4 2 0,sI 3 r2],[(18,(Vtab.row r10.1)),(16,(Vtab.row r9.1)),(11,(Vtab.row r7.1)),(9,(Vtab.row r6.1)),(5,(Vtab.row r4.1)),(4,(Vtab.row r3))]⟩ kr ?_
 rw [h4]
 refine mU tOk K6x12 [(20,[]),(21,[]),(22,[]),(23,[]),(24,[])] 21 [⟨[16,32],29,5,82⟩,⟨[13,16,32],29,5,79⟩,⟨[2,13,16,32],29,4,68⟩] [24,23,22,21,20,19,18,17,16,13,15,14,12,11,10,9,8,7,6,5,2,4,3,1,0] rfl kr (fun cx => ?_)
 refine aT ⟨113,0,[sB 92 (r6.2 == r7.2),sB 91 (r6.2 == r7.2),sB 90 (r6.2 == r7.2),sB 89 r7.2,sB 88 r6.2,sB 87 true,sB 86 true,sB 85 true,sB 84 r13,sB 81 r12,sI 83 r4.2,sR 82 5 2 0 2 true,sI 80 r4.2,sR 79 5 2 0 2 true,sB 78 true,sB 77 true,sB 76 false,(75,.tup []),(74,.tup []),sB 73 false,sB 70 r11,sB 72 false,sI 71 r2,sI 69 r2,sR 68 4 2 0 2 true,sB 19 r10.2,sA 18 18 2 0,sB 17 r9.2,sA 16 16 2 0,sB 12 r7.2,sA 11 11 2 0,sB 10 r6.2,sA 9 9 2 0,sI 6 r4.2,sA 5 5 2 0,sA 4 4 2 0,sI 3 r2],[(18,(Vtab.row r10.1)),(16,(Vtab.row r9.1)),(11,(Vtab.row r7.1)),(9,(Vtab.row r6.1)),(5,(Vtab.row r4.1)),(4,(Vtab.row r3))]⟩ kr ?_
 rw [h5]
 refine aT ⟨113,0,[sB 92 true,sB 91 true,sB 90 true,sB 89 r7.2,sB 88 r6.2,sB 87 true,sB 86 true,sB 85 true,sB 84 r13,sB 81 r12,sI 83 r4.2,sR 82 5 2 0 2 true,sI 80 r4.2,sR 79 5 2 0 2 true,sB 78 true,sB 77 true,sB 76 false,(75,.tup []),(74,.tup []),sB 73 false,sB 70 r11,sB 72 false,sI 71 r2,sI 69 r2,sR 68 4 2 0 2 true,sB 19 r10.2,sA 18 18 2 0,sB 17 r9.2,sA 16 16 2 0,sB 12 r7.2,sA 11 11 2 0,sB 10 r6.2,sA 9 9 2 0,sI 6 r4.2,sA 5 5 2 0,sA 4 4 2 0,sI 3 r2],[(18,(Vtab.row r10.1)),(16,(Vtab.row r9.1)),(11,(Vtab.row r7.1)),(9,(Vtab.row r6.1)),(5,(Vtab.row r4.1)),(4,(Vtab.row r3))]⟩ kr ?_
 exact laws_FnNetworksBent_D7 n r9 r10 r7 r6 r13 r12 r4 r11 r2 r3 r14 h6 er14 h7 cx
theorem laws_FnNetworksBent_D9 (n : Nat) (r9 : Vtab × Bool) (r10 : Vtab × Bool) (r7 : Vtab × Bool) (r6 : Vtab × Bool) (r13 : Bool) (r12 : Bool) (r4 : Vtab × Int) (r11 : Bool) (r2 : Int) (r3 : Vtab) (r14 : Bool) (r15 : Bool) (h6 : (r9.2 == r10.2) = true) (er14 : (laws_sameVtabF n r6.1 r7.1) = some r14) (h7 : r14 = true) (er15 : (laws_sameVtabF n r9.1 r10.1) = some r15) (h8 : r15 = false) (cx : Cx) : AT Try.prog cx (rg Try.f6 12) [⟨[16,32,37],29,5,82⟩,⟨[13,16,32,37],29,5,79⟩,⟨[2,13,16,32,37],29,4,68⟩] 21 [24,23,22,21,20,19,18,17,16,13,15,14,12,11,10,9,8,7,6,5,2,4,3,1,0] ⟨113,0,[sB 92 true,sB 91 true,sB 90 true,sB 89 r7.2,sB 88 r6.2,sB 87 true,sB 86 true,sB 85 true,sB 84 r13,sB 81 r12,sI 83 r4.2,sR 82 5 2 0 2 true,sI 80 r4.2,sR 79 5 2 0 2 true,sB 78 true,sB 77 true,sB 76 false,(75,.tup []),(74,.tup []),sB 73 false,sB 70 r11,sB 72 false,sI 71 r2,sI 69 r2,sR 68 4 2 0 2 true,sB 19 r10.2,sA 18 18 2 0,sB 17 r9.2,sA 16 16 2 0,sB 12 r7.2,sA 11 11 2 0,sB 10 r6.2,sA 9 9 2 0,sI 6 r4.2,sA 5 5 2 0,sA 4 4 2 0,sI 3 r2],[(18,(Vtab.row r10.1)),(16,(Vtab.row r9.1)),(11,(Vtab.row r7.1)),(9,(Vtab.row r6.1)),(5,(Vtab.row r4.1)),(4,(Vtab.row r3))]⟩ (fun s => s = ⟨113,0,[sB 2 false],[]⟩) := by
 refine mU tOk K6x12 [(25,[]),(26,[]),(27,[]),(28,[]),(29,[])] 16 [⟨[16,32,37],29,5,82⟩,⟨[13,16,32,37],29,5,79⟩,⟨[2,13,16,32,37],29,4,68⟩] [29,28,27,26,25,24,23,22,21,20,19,18,17,16,13,15,14,12,11,10,9,8,7,6,5,2,4,3,1,0] rfl kr (fun cx => ?_)
 refine aT ⟨113,0,[sB 97 (r9.2 == r10.2),sB 96 (r9.2 == r10.2),sB 95 (r9.2 == r10.2),sB 94 r10.2,sB 93 r9.2,sB 92 true,sB 91 true,sB 90 true,sB 89 r7.2,sB 88 r6.2,sB 87 true,sB 86 true,sB 85 true,sB 84 r13,sB 81 r12,sI 83 r4.2,sR 82 5 2 0 2 true,sI 80 r4.2,sR 79 5 2 0 2 true,sB 78 true,sB 77 true,sB 76 false,(75,.tup []),(74,.tup []),sB 73 false,sB 70 r11,sB 72 false,sI 71 r2,sI 69 r2,sR 68 4 2 0 2 true,sB 19 r10.2,sA 18 18 2 0,sB 17 r9.2,sA 16 16 2 0,sB 12 r7.2,sA 11 11 2 0,sB 10 r6.2,sA 9 9 2 0,sI 6 r4.2,sA 5 5 2 0,sA 4 4 2 0,sI 3 r2],[(18,(Vtab.row r10.1)),(16,(Vtab.row r9.1)),(11,(Vtab.row r7.1)),(9,(Vtab.row r6.1)),(5,(Vtab.row r4.1)),(4,(Vtab.row r3))]⟩ kr ?_
 rw [h6]
 refine mU tOk K6x12 [(30,[32,37]),(31,[32,37])] 14 [⟨[32,37],29,11,99⟩,⟨[32,37],29,9,98⟩,⟨[16,32,37],29,5,82⟩,⟨[13,16,32,37],29,5,79⟩,⟨[2,13,16,32,37],29,4,68⟩] [31,30,29,28,27,26,25,24,23,22,21,20,19,18,17,16,13,15,14,12,11,10,9,8,7,6,5,2,4,3,1,0] rfl kr (fun cx => ?_)
 refine mB1 tOk K6x12 32 kr kr ?_
 refine lV tOk [.rd,.rd] [.box 9,.box 11] (laws_sameVtab n r6.1 r7.1 r14 er14) kr kr kr kr (.inr (rets_cons (mine_cons mine_lit mine_nil) rets_nil)) ?_
 refine lF kr kr kr ?_
 refine mU tOk K6x12 [(33,[]),(34,[])] 11 [⟨[32,37],29,11,99⟩,⟨[32,37],29,9,98⟩,⟨[16,32,37],29,5,82⟩,⟨[13,16,32,37],29,5,79⟩,⟨[2,13,16,32,37],29,4,68⟩] [34,33,32,31,30,29,28,27,26,25,24,23,22,21,20,19,18,17,16,13,15,14,12,11,10,9,8,7,6,5,2,4,3,1,0] rfl kr (fun cx => ?_)
 refine aT ⟨113,0,[sB 102 r14,sB 101 r14,sB 100 r14,sR 99 11 2 0 2 true,sR 98 9 2 0 2 true,sB 97 true,sB 96 true,sB 95 true,sB 94 r10.2,sB 93 r9.2,sB 92 true,sB 91 true,sB 90 true,sB 89 r7.2,sB 88 r6.2,sB 87 true,sB 86 true,sB 85 true,sB 84 r13,sB 81 r12,sI 83 r4.2,sR 82 5 2 0 2 true,sI 80 r4.2,sR 79 5 2 0 2 true,sB 78 true,sB 77 true,sB 76 false,(75,.tup []),(74,.tup []),sB 73 false,sB 70 r11,sB 72 false,sI 71 r2,sI 69 r2,sR 68 4 2 0 2 true,sB 19 r10.2,sA 18 18 2 0,sB 17 r9.2,sA 16 16 2 0,sB 12 r7.2,sA 11 11 2 0,sB 10 r6.2,sA 9 9 2 0,sI 6 r4.2,sA 5 5 2 0,sA 4 4 2 0,sI 3 r2],[(18,(Vtab.row r10.1)),(16,(Vtab.row r9.1)),(11,(Vtab.row r7.1)),(9,(Vtab.row r6.1)),(5,(Vtab.row r4.1)),(4,(Vtab.row r3))]⟩ kr ?_
 rw [h7]
 refine mU tOk K6x12 [(35,[37]),(36,[37])] 9 [⟨[37],29,18,104⟩,⟨[37],29,16,103⟩,⟨[32,37],29,11,99⟩,⟨[32,37],29,9,98⟩,⟨[16,32,37],29,5,82⟩,⟨[13,16,32,37],29,5,79⟩,⟨[2,13,16,32,37],29,4,68⟩] [36,35,34,33,32,31,30,29,28,27,26,25,24,23,22,21,20,19,18,17,16,13,15,14,12,11,10,9,8,7,6,5,2,4,3,1,0] rfl kr (fun cx => ?_)
 refine mB1 tOk K6x12 37 kr kr ?_
 refine lV tOk [.rd,.rd] [.box 16,.box 18] (laws_sameVtab n r9.1 r10.1 r15 er15) kr kr kr kr (.inr (rets_cons (mine_cons mine_lit mine_nil) rets_nil)) ?_
 refine lF kr kr kr ?_
 refine mU tOk K6x12 [(38,[]),(39,[])] 6 [⟨[37],29,18,104⟩,⟨[37],29,16,103⟩,⟨[32,37],29,11,99⟩,⟨[32,37],29,9,98⟩,⟨[16,32,37],29,5,82⟩,⟨[13,16,32,37],29,5,79⟩,⟨[2,13,16,32,37],29,4,68⟩] [39,38,37,36,35,34,33,32,31,30,29,28,27,26,25,24,23,22,21,20,19,18,17,16,13,15,14,12,11,10,9,8,7,6,5,2,4,3,1,0] rfl kr (fun cx => ?_)
 refine aT ⟨113,0,[sB 107 r15,sB 106 r15,sB 105 r15,sR 104 18 2 0 2 true,sR 103 16 2 0 2 true,sB 102 true,sB 101 true,sB 100 true,sR 99 11 2 0 2 true,sR 98 9 2 0 2 true,sB 97 true,sB 96 true,sB 95 true,sB 94 r10.2,sB 93 r9.2,sB 92 true,sB 91 true,sB 90 true,sB 89 r7.2,sB 88 r6.2,sB 87 true,sB 86 true,sB 85 true,sB 84 r13,sB 81 r12,sI 83 r4.2,sR 82 5 2 0 2 true,sI 80 r4.2,sR 79 5 2 0 2 true,sB 78 true,sB 77 true,sB 76 false,(75,.tup []),(74,.tup []),sB 73 false,sB 70 r11,sB 72 false,sI 71 r2,sI 69 r2,sR 68 4 2 0 2 true,sB 19 r10.2,sA 18 18 2 0,sB 17 r9.2,sA 16 16 2 0,sB 12 r7.2,sA 11 11 2 0,sB 10 r6.2,sA 9 9 2 0,sI 6 r4.2,sA 5 5 2 0,sA 4 4 2 0,sI 3 r2],[(18,(Vtab.row r10.1)),(16,(Vtab.row r9.1)),(11,(Vtab.row r7.1)),(9,(Vtab.row r6.1)),(5,(Vtab.row r4.1)),(4,(Vtab.row r3))]⟩ kr ?_
 rw [h8]
 refine mU tOk K6x12 [(40,[]),(41,[]),(42,[]),(43,[]),(44,[]),(45,[])] 0 [⟨[37],29,18,104⟩,⟨[37],29,16,103⟩,⟨[32,37],29,11,99⟩,⟨[32,37],29,9,98⟩,⟨[16,32,37],29,5,82⟩,⟨[13,16,32,37],29,5,79⟩,⟨[2,13,16,32,37],29,4,68⟩] [45,44,43,42,41,40,39,38,37,36,35,34,33,32,31,30,29,28,27,26,25,24,23,22,21,20,19,18,17,16,13,15,14,12,11,10,9,8,7,6,5,2,4,3,1,0] rfl kr (fun cx => ?_)
 exact mD K6x12 [2] [] _ kr kr rfl
theorem laws_FnNetworksBent_D10 (n : Nat) (r3 : Vtab) (r2 : Int) (r11 : Bool) (r10 : Vtab × Bool) (r9 : Vtab × Bool) (r7 : Vtab × Bool) (r6 : Vtab × Bool) (r4 : Vtab × Int) (r12 : Bool) (r13 : Bool) (r14 : Bool) (r15 : Bool) (er11 : (impl_VtabOkF n r3 r2) = some r11) (h2 : (decide (r2 ≥ 1)) = false) (h3 : (r11 == false) = true) (er12 : (impl_VtabOkF n r4.1 r4.2) = some r12) (er13 : (spec_VtabOkF n r4.1 r4.2) = some r13) (h4 : (r12 == r13) = true) (h5 : (r6.2 == r7.2) = true) (h6 : (r9.2 == r10.2) = true) (er14 : (laws_sameVtabF n r6.1 r7.1) = some r14) (h7 : r14 = true) (er15 : (laws_sameVtabF n r9.1 r10.1) = some r15) (h8 : r15 = false) (cx : Cx) : AT Try.prog cx (rg Try.f6 12) [] 46 [] ⟨113,0,[sB 19 r10.2,sA 18 18 2 0,sB 17 r9.2,sA 16 16 2 0,sB 12 r7.2,sA 11 11 2 0,sB 10 r6.2,sA 9 9 2 0,sI 6 r4.2,sA 5 5 2 0,sA 4 4 2 0,sI 3 r2],[(18,(Vtab.row r10.1)),(16,(Vtab.row r9.1)),(11,(Vtab.row r7.1)),(9,(Vtab.row r6.1)),(5,(Vtab.row r4.1)),(4,(Vtab.row r3))]⟩ (fun s => s = ⟨113,0,[sB 2 false],[]⟩) := by
 refine mU tOk K6x12 [(0,[2,13,16,32,37]),(1,[]),(3,[]),(4,[])] 42 [⟨[2,13,16,32,37],29,4,68⟩] [4,3,1,0] rfl kr (fun cx => ?_)
 refine mB1 tOk K6x12 2 kr kr ?_
 refine lV tOk [.rd,.rd] [.box 4] (impl_VtabOk n r3 r2 r11 er11) kr kr kr kr (.inr (rets_cons (mine_cons mine_lit mine_nil) rets_nil)) ?_
 refine lF kr kr kr ?_
 refine mU tOk K6x12 [(5,[])] 40 [⟨[2,13,16,32,37],29,4,68⟩] [5,2,4,3,1,0] rfl kr (fun cx => ?_)
 refine aT ⟨113,0,[sB 73 (decide (r2 ≥ 1)),sB 70 r11,sB 72 (decide (r2 ≥ 1)),sI 71 r2,sI 69 r2,sR 68 4 2 0 2 true,sB 19 r10.2,sA 18 18 2 0,sB 17 r9.2,sA 16 16 2 0,sB 12 r7.2,sA 11 11 2 0,sB 10 r6.2,sA 9 9 2 0,sI 6 r4.2,sA 5 5 2 0,sA 4 4 2 0,sI 3 r2],[(18,(Vtab.row r10.1)),(16,(Vtab.row r9.1)),(11,(Vtab.row r7.1)),(9,(Vtab.row r6.1)),(5,(Vtab.row r4.1)),(4,(Vtab.row r3))]⟩ kr ?_
 rw [h2]
 refine mU tOk K6x12 [(6,[]),(7,[]),(8,[]),(9,[]),(10,[])] 35 [⟨[2,13,16,32,37],29,4,68⟩] [10,9,8,7,6,5,2,4,3,1,0] rfl kr (fun cx => ?_)
 refine aT ⟨113,0,[sB 78 (r11 == false),sB 77 (r11 == false),sB 76 false,(75,.tup []),(74,.tup []),sB 73 false,sB 70 r11,sB 72 false,sI 71 r2,sI 69 r2,sR 68 4 2 0 2 true,sB 19 r10.2,sA 18 18 2 0,sB 17 r9.2,sA 16 16 2 0,sB 12 r7.2,sA 11 11 2 0,sB 10 r6.2,sA 9 9 2 0,sI 6 r4.2,sA 5 5 2 0,sA 4 4 2 0,sI 3 r2],[(18,(Vtab.row r10.1)),(16,(Vtab.row r9.1)),(11,(Vtab.row r7.1)),(9,(Vtab.row r6.1)),(5,(Vtab.row r4.1)),(4,(Vtab.row r3))]⟩ kr ?_
 rw [h3]
 refine mU tOk K6x12 [(11,[13,16,32,37]),(12,[]),(14,[16,32,37]),(15,[])] 31 [⟨[16,32,37],29,5,82⟩,⟨[13,16,32,37],29,5,79⟩,⟨[2,13,16,32,37],29,4,68⟩] [15,14,12,11,10,9,8,7,6,5,2,4,3,1,0] rfl kr (fun cx => ?_)
 refine mB1 tOk K6x12 13 kr kr ?_
 refine lV tOk [.rd,.rd] [.box 5] (impl_VtabOk n r4.1 r4.2 r12 er12) kr kr kr kr (.inr (rets_cons (mine_cons mine_lit mine_nil) rets_nil)) ?_
 refine lF kr kr kr ?_
 refine mB1 tOk K6x12 16 kr kr ?_
 refine lV tOk [.rd,.rd] [.box 5] (spec_VtabOk n r4.1 r4.2 r13 er13) kr kr kr kr (.inr (rets_cons (mine_cons mine_lit mine_nil) rets_nil)) ?_
 refine lF kr kr kr ?_
 refine mU tOk K6x12 [(17,[]),(18,[]),(19,[])] 26 [⟨[16,32,37],29,5,82⟩,⟨[13,16,32,37],29,5,79⟩,⟨[2,13,16,32,37],29,4,68⟩] [19,18,17,16,13,15,14,12,11,10,9,8,7,6,5,2,4,3,1,0] rfl kr (fun cx => ?_)
 refine aT ⟨113,0,[sB 87 (r12 == r13),sB 86 (r12 == r13),sB 85 (r12 == r13),sB 84 r13,sB 81 r12,sI 83 r4.2,sR 82 5 2 0 2 true,sI 80 r4.2,sR 79 5 2 0 2 true,sB 78 true,sB 77 true,sB 76 false,(75,.tup []),(74,.tup []),sB 73 false,sB 70 r11,sB 72 false,sI 71 r2,sI 69 r2,sR 68 4 2 0 2 true,sB 19 r10.2,sA 18 18 2 0,sB 17 r9.2,sA 16 16 2 0,sB 12 r7.2,sA 11 11 2 0,sB 10 r6.2,sA 9 9 2 0,sI 6 r4.2,sA 5 5 2 0,sA 4 4 2 0,sI 3 r2],[(18,(Vtab.row r10.1)),(16,(Vtab.row r9.1)),(11,(Vtab.row r7.1)),(9,(Vtab.row r6.1)),(5,(Vtab.row r4.1)),(4,(Vtab.row r3))]⟩ kr ?_
 rw [h4]
 refine mU tOk K6x12 [(20,[]),(21,[]),(22,[]),(23,[]),(24,[])] 21 [⟨[16,32,37],29,5,82⟩,⟨[13,16,32,37],29,5,79⟩,⟨[2,13,16,32,37],29,4,68⟩] [24,23,22,21,20,19,18,17,16,13,15,14,12,11,10,9,8,7,6,5,2,4,3,1,0] rfl kr (fun cx => ?_)
 refine aT ⟨113,0,[sB 92 (r6.2 == r7.2),sB 91 (r6.2 == r7.2),sB 90 (r6.2 == r7.2),sB 89 r7.2,sB 88 r6.2,sB 87 true,sB 86 true,sB 85 true,sB 84 r13,sB 81 r12,sI 83 r4.2,sR 82 5 2 0 2 true,sI 80 r4.2,sR 79 5 2 0 2 true,sB 78 true,sB 77 true,sB 76 false,(75,.tup []),(74,.tup []),sB 73 false,sB 70 r11,sB 72 false,sI 71 r2,sI 69 r2,sR 68 4 2 0 2 true,sB 19 r10.2,sA 18 18 2 0,sB 17 r9.2,sA 16 16 2 0,sB 12 r7.2,sA 11 11 2 0,sB 10 r6.2,sA 9 9 2 0,sI 6 r4.2,sA 5 5 2 0,sA 4 4 2 0,sI 3 r2],[(18,(Vtab.row r10.1)),(16,(Vtab.row r9.1)),(11,(Vtab.row r7.1)),(9,(Vtab.row r6.1)),(5,(Vtab.row r4.1)),(4,(Vtab.row r3))]⟩ kr ?_
 rw [h5]
 refine aT ⟨113,0,[sB 92 true,sB 91 true,sB 90 true,sB 89 r7.2,sB 88 r6.2,sB 87 true,sB 86 true,sB 85 true,sB 84 r13,sB 81 r12,sI 83 r4.2,sR 82 5 2 0 2 true,sI 80 r4.2,sR 79 5 2 0 2 true,sB 78 true,sB 77 true,sB 76 false,(75,.tup []),(74,.tup []),sB 73 false,sB 70 r11,sB 72 false,sI 71 r2,sI 69 r2,sR 68 4 2 0 2 true,sB 19 r10.2,sA 18 18 2 0,sB 17 r9.2,sA 16 16 2 0,sB 12 r7.2,sA 11 11 2 0,sB 10 r6.2,sA 9 9 2 0,sI 6 r4.2,sA 5 5 2 0,sA 4 4 2 0,sI 3 r2],[(18,(Vtab.row r10.1)),(16,(Vtab.row r9.1)),(11,(Vtab.row r7.1)),(9,(Vtab.row r6.1)),(5,(Vtab.row r4.1)),(4,(Vtab.row r3))]⟩ kr ?_
 exact laws_FnNetworksBent_D9 n r9 r10 r7 r6 r13 r12 r4 r11 r2 r3 r14 r15 h6 er14 h7 er15 h8 cx
theorem laws_FnNetworksBent_D11 (n : Nat) (r9 : Vtab × Bool) (r10 : Vtab × Bool) (r7 : Vtab × Bool) (r6 : Vtab × Bool) (r13 : Bool) (r12 : Bool) (r4 : Vtab × Int) (r11 : Bool) (r2 : Int) (r3 : Vtab) (r14 : Bool) (r15 : Bool) (r16 : Vtab) (r17 : Bool) (h6 : (r9.2 == r10.2) = true) (er14 : (laws_sameVtabF n r6.1 r7.1) = some r14) (h7 : r14 = true) (er15 : (laws_sameVtabF n r9.1 r10.1) = some r15) (h8 : r15 = true) (er16 : (spec_VtabNewF n r2) = some r16) (er17 : (laws_sameVtabF n r3 r16) = some r17) (cx : Cx) : AT Try.prog cx (rg Try.f6 12) [⟨[16,32,37,42,43],29,5,82⟩,⟨[13,16,32,37,42,43],29,5,79⟩,⟨[2,13,16,32,37,42,43],29,4,68⟩] 21 [24,23,22,21,20,19,18,17,16,13,15,14,12,11,10,9,8,7,6,5,2,4,3,1,0] ⟨113,0,[sB 92 true,sB 91 true,sB 90 true,sB 89 r7.2,sB 88 r6.2,sB 87 true,sB 86 true,sB 85 true,sB 84 r13,sB 81 r12,sI 83 r4.2,sR 82 5 2 0 2 true,sI 80 r4.2,sR 79 5 2 0 2 true,sB 78 true,sB 77 true,sB 76 false,(75,.tup []),(74,.tup []),sB 73 false,sB 70 r11,sB 72 false,sI 71 r2,sI 69 r2,sR 68 4 2 0 2 true,sB 19 r10.2,sA 18 18 2 0,sB 17 r9.2,sA 16 16 2 0,sB 12 r7.2,sA 11 11 2 0,sB 10 r6.2,sA 9 9 2 0,sI 6 r4.2,sA 5 5 2 0,sA 4 4 2 0,sI 3 r2],[(18,(Vtab.row r10.1)),(16,(Vtab.row r9.1)),(11,(Vtab.row r7.1)),(9,(Vtab.row r6.1)),(5,(Vtab.row r4.1)),(4,(Vtab.row r3))]⟩ (fun s => s = ⟨113,0,[sB 2 r17],[]⟩) := by
 refine mU tOk K6x12 [(25,[]),(26,[]),(27,[]),(28,[]),(29,[])] 16 [⟨[16,32,37,42,43],29,5,82⟩,⟨[13,16,32,37,42,43],29,5,79⟩,⟨[2,13,16,32,37,42,43],29,4,68⟩] [29,28,27,26,25,24,23,22,21,20,19,18,17,16,13,15,14,12,11,10,9,8,7,6,5,2,4,3,1,0] rfl kr (fun cx => ?_)
 refine aT ⟨113,0,[sB 97 (r9.2 == r10.2),sB 96 (r9.2 == r10.2),sB 95 (r9.2 == r10.2),sB 94 r10.2,sB 93 r9.2,sB 92 true,sB 91 true,sB 90 true,sB 89 r7.2,sB 88 r6.2,sB 87 true,sB 86 true,sB 85 true,sB 84 r13,sB 81 r12,sI 83 r4.2,sR 82 5 2 0 2 true,sI 80 r4.2,sR 79 5 2 0 2 true,sB 78 true,sB 77 true,sB 76 false,(75,.tup []),(74,.tup []),sB 73 false,sB 70 r11,sB 72 false,sI 71 r2,sI 69 r2,sR 68 4 2 0 2 true,sB 19 r10.2,sA 18 18 2 0,sB 17 r9.2,sA 16 16 2 0,sB 12 r7.2,sA 11 11 2 0,sB 10 r6.2,sA 9 9 2 0,sI 6 r4.2,sA 5 5 2 0,sA 4 4 2 0,sI 3 r2],[(18,(Vtab.row r10.1)),(16,(Vtab.row r9.1)),(11,(Vtab.row r7.1)),(9,(Vtab.row r6.1)),(5,(Vtab.row r4.1)),(4,(Vtab.row r3))]⟩ kr ?_
 rw [h6]
 refine mU tOk K6x12 [(30,[32,37,42,43]),(31,[32,37,42,43])] 14 [⟨[32,37,42,43],29,11,99⟩,⟨[32,37,42,43],29,9,98⟩,⟨[16,32,37,42,43],29,5,82⟩,⟨[13,16,32,37,42,43],29,5,79⟩,⟨[2,13,16,32,37,42,43],29,4,68⟩] [31,30,29,28,27,26,25,24,23,22,21,20,19,18,17,16,13,15,14,12,11,10,9,8,7,6,5,2,4,3,1,0] rfl kr (fun cx => ?_)
 refine mB1 tOk K6x12 32 kr kr ?_
 refine lV tOk [.rd,.rd] [.box 9,.box 11] (laws_sameVtab n r6.1 r7.1 r14 er14) kr kr kr kr (.inr (rets_cons (mine_cons mine_lit mine_nil) rets_nil)) ?_
 refine lF kr kr kr ?_
 refine mU tOk K6x12 [(33,[]),(34,[])] 11 [⟨[32,37,42,43],29,11,99⟩,⟨[32,37,42,43],29,9,98⟩,⟨[16,32,37,42,43],29,5,82⟩,⟨[13,16,32,37,42,43],29,5,79⟩,⟨[2,13,16,32,37,42,43],29,4,68⟩] [34,33,32,31,30,29,28,27,26,25,24,23,22,21,20,19,18,17,16,13,15,14,12,11,10,9,8,7,6,5,2,4,3,1,0] rfl kr (fun cx => ?_)
 refine aT ⟨113,0,[sB 102 r14,sB 101 r14,sB 100 r14,sR 99 11 2 0 2 true,sR 98 9 2 0 2 true,sB 97 true,sB 96 true,sB 95 true,sB 94 r10.2,sB 93 r9.2,sB 92 true,sB 91 true,sB 90 true,sB 89 r7.2,sB 88 r6.2,sB 87 true,sB 86 true,sB 85 true,sB 84 r13,sB 81 r12,sI 83 r4.2,sR 82 5 2 0 2 true,sI 80 r4.2,sR 79 5 2 0 2 true,sB 78 true,sB 77 true,sB 76 false,(75,.tup []),(74,.tup []),sB 73 false,sB 70 r11,sB 72 false,sI 71 r2,sI 69 r2,sR 68 4 2 0 2 true,sB 19 r10.2,sA 18 18 2 0,sB 17 r9.2,sA 16 16 2 0,sB 12 r7.2,sA 11 11 2 0,sB 10 r6.2,sA 9 9 2 0,sI 6 r4.2,sA 5 5 2 0,sA 4 4 2 0,sI 3 r2],[(18,(Vtab.row r10.1)),(16,(Vtab.row r9.1)),(11,(Vtab.row r7.1)),(9,(Vtab.row r6.1)),(5,(Vtab.row r4.1)),(4,(Vtab.row r3))]⟩ kr ?_
 rw [h7]
 refine mU tOk K6x12 [(35,[37,42,43]),(36,[37,42,43])] 9 [⟨[37,42,43],29,18,104⟩,⟨[37,42,43],29,16,103⟩,⟨[32,37,42,43],29,11,99⟩,⟨[32,37,42,43],29,9,98⟩,⟨[16,32,37,42,43],29,5,82⟩,⟨[13,16,32,37,42,43],29,5,79⟩,⟨[2,13,16,32,37,42,43],29,4,68⟩] [36,35,34,33,32,31,30,29,28,27,26,25,24,23,22,21,20,19,18,17,16,13,15,14,12,11,10,9,8,7,6,5,2,4,3,1,0] rfl kr (fun cx => ?_)
 refine mB1 tOk K6x12 37 kr kr ?_
 refine lV tOk [.rd,.rd] [.box 16,.box 18] (laws_sameVtab n r9.1 r10.1 r15 er15) kr kr kr kr (.inr (rets_cons (mine_cons mine_lit mine_nil) rets_nil)) ?_
 refine lF kr kr kr ?_
 refine mU tOk K6x12 [(38,[]),(39,[])] 6 [⟨[37,42,43],29,18,104⟩,⟨[37,42,43],29,16,103⟩,⟨[32,37,42,43],29,11,99⟩,⟨[32,37,42,43],29,9,98⟩,⟨[16,32,37,42,43],29,5,82⟩,⟨[13,16,32,37,42,43],29,5,79⟩,⟨[2,13,16,32,37,42,43],29,4,68⟩] [39,38,37,36,35,34,33,32,31,30,29,28,27,26,25,24,23,22,21,20,19,18,17,16,13,15,14,12,11,10,9,8,7,6,5,2,4,3,1,0] rfl kr (fun cx => ?_)
 refine aT ⟨113,0,[sB 107 r15,sB 106 r15,sB 105 r15,sR 104 18 2 0 2 true,sR 103 16 2 0 2 true,sB 102 true,sB 101 true,sB 100 true,sR 99 11 2 0 2 true,sR 98 9 2 0 2 true,sB 97 true,sB 96 true,sB 95 true,sB 94 r10.2,sB 93 r9.2,sB 92 true,sB 91 true,sB 90 true,sB 89 r7.2,sB 88 r6.2,sB 87 true,sB 86 true,sB 85 true,sB 84 r13,sB 81 r12,sI 83 r4.2,sR 82 5 2 0 2 true,sI 80 r4.2,sR 79 5 2 0 2 true,sB 78 true,sB 77 true,sB 76 false,(75,.tup []),(74,.tup []),sB 73 false,sB 70 r11,sB 72 false,sI 71 r2,sI 69 r2,sR 68 4 2 0 2 true,sB 19 r10.2,sA 18 18 2 0,sB 17 r9.2,sA 16 16 2 0,sB 12 r7.2,sA 11 11 2 0,sB 10 r6.2,sA 9 9 2 0,sI 6 r4.2,sA 5 5 2 0,sA 4 4 2 0,sI 3 r2],[(18,(Vtab.row r10.1)),(16,(Vtab.row r9.1)),(11,(Vtab.row r7.1)),(9,(Vtab.row r6.1)),(5,(Vtab.row r4.1)),(4,(Vtab.row r3))]⟩ kr ?_
 rw [h8]
 refine mU tOk K6x12 [(40,[43]),(41,[])] 4 [⟨[43],29,4,108⟩,⟨[37,42,43],29,18,104⟩,⟨[37,42,43],29,16,103⟩,⟨[32,37,42,43],29,11,99⟩,⟨[32,37,42,43],29,9,98⟩,⟨[16,32,37,42,43],29,5,82⟩,⟨[13,16,32,37,42,43],29,5,79⟩,⟨[2,13,16,32,37,42,43],29,4,68⟩] [41,40,39,38,37,36,35,34,33,32,31,30,29,28,27,26,25,24,23,22,21,20,19,18,17,16,13,15,14,12,11,10,9,8,7,6,5,2,4,3,1,0] rfl kr (fun cx => ?_)
 refine mB1 tOk K6x12 42 kr kr ?_
 refine lV tOk [.rd] [] (spec_VtabNew n r2 r16 er16) kr kr kr kr (.inl rfl) ?_
 refine lF kr kr kr ?_
 refine mB1 tOk K6x12 43 kr kr ?_
 refine lV tOk [.rd,.rd] [.box 4] (laws_sameVtab n r3 r16 r17 er17) kr kr kr kr (.inr (rets_cons (mine_cons mine_lit mine_nil) rets_nil)) ?_
 refine lF kr kr kr ?_
 refine mU tOk K6x12 [(44,[]),(45,[])] 0 [⟨[43],29,4,108⟩,⟨[37,42,43],29,18,104⟩,⟨[37,42,43],29,16,103⟩,⟨[32,37,42,43],29,11,99⟩,⟨[32,37,42,43],29,9,98⟩,⟨[16,32,37,42,43],29,5,82⟩,⟨[13,16,32,37,42,43],29,5,79⟩,⟨[2,13,16,32,37,42,43],29,4,68⟩] [45,44,43,42,41,40,39,38,37,36,35,34,33,32,31,30,29,28,27,26,25,24,23,22,21,20,19,18,17,16,13,15,14,12,11,10,9,8,7,6,5,2,4,3,1,0] rfl kr (fun cx => ?_)
 exact mD K6x12 [2] [] _ kr kr rfl
theorem laws_FnNetworksBent_D12 (n : Nat) (r3 : Vtab) (r2 : Int) (r11 : Bool) (r10 : Vtab × Bool) (r9 : Vtab × Bool) (r7 : Vtab × Bool) (r6 : Vtab × Bool) (r4 : Vtab × Int) (r12 : Bool) (r13 : Bool) (r14 : Bool) (r15 : Bool) (r16 : Vtab) (r17 : Bool) (er11 : (impl_VtabOkF n r3 r2) = some r11) (h2 : (decide (r2 ≥ 1)) = false) (h3 : (r11 == false) = true) (er12 : (impl_VtabOkF n r4.1 r4.2) = some r12) (er13 : (spec_VtabOkF n r4.1 r4.2) = some r13) (h4 : (r12 == r13) = true) (h5 : (r6.2 == r7.2) = true) (h6 : (r9.2 == r10.2) = true) (er14 : (laws_sameVtabF n r6.1 r7.1) = some r14) (h7 : r14 = true) (er15 : (laws_sameVtabF n r9.1 r10.1) = some r15) (h8 : r15 = true) (er16 : (spec_VtabNewF n r2) = some r16) (er17 : (laws_sameVtabF n r3 r16) = some r17) (cx : Cx) : AT Try.prog cx (rg Try.f6 12) [] 46 [] ⟨113,0,[sB 19 r10.2,sA 18 18 2 0,sB 17 r9.2,sA 16 16 2 0,sB 12 r7.2,sA 11 11 2 0,sB 10 r6.2,sA 9 9 2 0,sI 6 r4.2,sA 5 5 2 0,sA 4 4 2 0,sI 3 r2],[(18,(Vtab.row r10.1)),(16,(Vtab.row r9.1)),(11,(Vtab.row r7.1)),(9,(Vtab.row r6.1)),(5,(Vtab.row r4.1)),(4,(Vtab.row r3))]⟩ (fun s => s = ⟨113,0,[sB 2 r17],[]⟩) := by
 refine mU tOk K6x12 [(0,[2,13,16,32,37,42,43]),(1,[]),(3,[]),(4,[])] 42 [⟨[2,13,16,32,37,42,43],29,4,68⟩] [4,3,1,0] rfl kr (fun cx => ?_)
 refine mB1 tOk K6x12 2 kr kr ?_
 refine lV tOk [.rd,.rd] [.box 4] (impl_VtabOk n r3 r2 r11 er11) kr kr kr kr (.inr (rets_cons (mine_cons mine_lit mine_nil) rets_nil)) ?_
 refine lF kr kr kr ?_
 refine mU tOk K6x12 [(5,[])] 40 [⟨[2,13,16,32,37,42,43],29,4,68⟩] [5,2,4,3,1,0] rfl kr (fun cx => ?_)
 refine aT ⟨113,0,[sB 73 (decide (r2 ≥ 1)),sB 70 r11,sB 72 (decide (r2 ≥ 1)),sI 71 r2,sI 69 r2,sR 68 4 2 0 2 true,sB 19 r10.2,sA 18 18 2 0,sB 17 r9.2,sA 16 16 2 0,sB 12 r7.2,sA 11 11 2 0,sB 10 r6.2,sA 9 9 2 0,sI 6 r4.2,sA 5 5 2 0,sA 4 4 2 0,sI 3 r2],[(18,(Vtab.row r10.1)),(16,(Vtab.row r9.1)),(11,(Vtab.row r7.1)),(9,(Vtab.row r6.1)),(5,(Vtab.row r4.1)),(4,(Vtab.row r3))]⟩ kr ?_
 rw [h2]
 refine mU tOk K6x12 [(6,[]),(7,[]),(8,[]),(9,[]),(10,[])] 35 [⟨[2,13,16,32,37,42,43],29,4,68⟩] [10,9,8,7,6,5,2,4,3,1,0] rfl kr (fun cx => ?_)
 refine aT ⟨113,0,[sB 78 (r11 == false),sB 77 (r11 == false),sB 76 false,(75,.tup []),(74,.tup []),sB 73 false,sB 70 r11,sB 72 false,sI 71 r2,sI 69 r2,sR 68 4 2 0 2 true,sB 19 r10.2,sA 18 18 2 0,sB 17 r9.2,sA 16 16 2 0,sB 12 r7.2,sA 11 11 2 0,sB 10 r6.2,sA 9 9 2 0,sI 6 r4.2,sA 5 5 2 0,sA 4 4 2 0,sI 3 r2],[(18,(Vtab.row r10.1)),(16,(Vtab.row r9.1)),(11,(Vtab.row r7.1)),(9,(Vtab.row r6.1)),(5,(Vtab.row r4.1)),(4,(Vtab.row r3))]⟩ kr ?_
 rw [h3]
 refine mU tOk K6x12 [(11,[13,16,32,37,42,43]),(12,[]),(14,[16,32,37,42,43]),(15,[])] 31 [⟨[16,32,37,42,43],29,5,82⟩,⟨[13,16,32,37,42,43],29,5,79⟩,⟨[2,13,16,32,37,42,43],29,4,68⟩] [15,14,12,11,10,9,8,7,6,5,2,4,3,1,0] rfl kr (fun cx => ?_)
 refine mB1 tOk K6x12 13 kr kr ?_
 refine lV tOk [.rd,.rd] [.box 5] (impl_VtabOk n r4.1 r4.2 r12 er12) kr kr kr kr (.inr (rets_cons (mine_cons mine_lit mine_nil) rets_nil)) ?_
 refine lF kr kr kr ?_
 refine mB1 tOk K6x12 16 kr kr ?_
 refine lV tOk [.rd,.rd] [.box 5] (spec_VtabOk n r4.1 r4.2 r13 er13) kr kr kr kr (.inr (rets_cons (mine_cons mine_lit mine_nil) rets_nil)) ?_
 refine lF kr kr kr ?_
 refine mU tOk K6x12 [(17,[]),(18,[]),(19,[])] 26 [⟨[16,32,37,42,43],29,5,82⟩,⟨[13,16,32,37,42,43],29,5,79⟩,⟨[2,13,16,32,37,42,43],29,4,68⟩] [19,18,17,16,13,15,14,12,11,10,9,8,7,6,5,2,4,3,1,0] rfl kr (fun cx => ?_)
 refine aT ⟨113,0,[sB 87 (r12 == r13),sB 86 (r12 == r13),sB 85 (r12 == r13),sB 84 r13,sB 81 r12,sI 83 r4.2,sR 82 5 2 0 2 true,sI 80 r4.2,sR 79 5 2 0 2 true,sB 78 true,sB 77 true,sB 76 false,(75,.tup []),(74,.tup []),sB 73 false,sB 70 r11,sB 72 false,sI 71 r2,sI 69 r2,sR 68 4 2 0 2 true,sB 19 r10.2,sA 18 18 2 0,sB 17 r9.2,sA 16 16 2 0,sB 12 r7.2,sA 11 11 2 0,sB 10 r6.2,sA 9 9 2 0,sI 6 r4.2,sA 5 5 2 0,sA 4 4 2 0,sI 3 r2],[(18,(Vtab.row r10.1)),(16,(Vtab.row r9.1)),(11,(Vtab.row r7.1)),(9,(Vtab.row r6.1)),(5,(Vtab.row r4.1)),(4,(Vtab.row r3))]⟩ kr ?_
 rw [h4]
 refine mU tOk K6x12 [(20,[]),(21,[]),(22,[]),(23,[]),(24,[])] 21 [⟨[16,32,37,42,43],29,5,82⟩,⟨[13,16,32,37,42,43],29,5,79⟩,⟨[2,13,16,32,37,42,43],29,4,68⟩] [24,23,22,21,20,19,18,17,16,13,15,14,12,11,10,9,8,7,6,5,2,4,3,1,0] rfl kr (fun cx => ?_)
 refine aT ⟨113,0,[sB 92 (r6.2 == r7.2),sB 91 (r6.2 == r7.2),sB 90 (r6.2 == r7.2),sB 89 r7.2,sB 88 r6.2,sB 87 true,sB 86 true,sB 85 true,sB 84 r13,sB 81 r12,sI 83 r4.2,sR 82 5 2 0 2 true,sI 80 r4.2,sR 79 5 2 0 2 true,sB 78 true,sB 77 true,sB 76 false,(75,.tup []),(74,.tup []),sB 73 false,sB 70 r11,sB 72 false,sI 71 r2,sI 69 r2,sR 68 4 2 0 2 true,sB 19 r10.2,sA 18 18 2 0,sB 17 r9.2,sA 16 16 2 0,sB 12 r7.2,sA 11 11 2 0,sB 10 r6.2,sA 9 9 2 0,sI 6 r4.2,sA 5 5 2 0,sA 4 4 2 0,sI 3 r2],[(18,(Vtab.row r10.1)),(16,(Vtab.row r9.1)),(11,(Vtab.row r7.1)),(9,(Vtab.row r6.1)),(5,(Vtab.row r4.1)),(4,(Vtab.row r3))]⟩ kr ?_
 rw [h5]
 refine aT ⟨113,0,[sB 92 true,sB 91 true,sB 90 true,sB 89 r7.2,sB 88 r6.2,sB 87 true,sB 86 true,sB 85 true,sB 84 r13,sB 81 r12,sI 83 r4.2,sR 82 5 2 0 2 true,sI 80 r4.2,sR 79 5 2 0 2 true,sB 78 true,sB 77 true,sB 76 false,(75,.tup []),(74,.tup []),sB 73 false,sB 70 r11,sB 72 false,sI 71 r2,sI 69 r2,sR 68 4 2 0 2 true,sB 19 r10.2,sA 18 18 2 0,sB 17 r9.2,sA 16 16 2 0,sB 12 r7.2,sA 11 11 2 0,sB 10 r6.2,sA 9 9 2 0,sI 6 r4.2,sA 5 5 2 0,sA 4 4 2 0,sI 3 r2],[(18,(Vtab.row r10.1)),(16,(Vtab.row r9.1)),(11,(Vtab.row r7.1)),(9,(Vtab.row r6.1)),(5,(Vtab.row r4.1)),(4,(Vtab.row r3))]⟩ kr ?_
 exact laws_FnNetworksBent_D11 n r9 r10 r7 r6 r13 r12 r4 r11 r2 r3 r14 r15 r16 r17 h6 er14 h7 er15 h8 er16 er17 cx
theorem laws_FnNetworksBent_D13 (n : Nat) (r3 : Vtab) (r2 : Int) (r11 : Bool) (r10 : Vtab × Bool) (r9 : Vtab × Bool) (r7 : Vtab × Bool) (r6 : Vtab × Bool) (r4 : Vtab × Int) (er11 : (impl_VtabOkF n r3 r2) = some r11) (h2 : (decide (r2 ≥ 1)) = true) (h9 : (r11 == (decide (r2 ≤ 6))) = false) (cx : Cx) : AT Try.prog cx (rg Try.f6 12) [] 46 [] ⟨113,0,[sB 19 r10.2,sA 18 18 2 0,sB 17 r9.2,sA 16 16 2 0,sB 12 r7.2,sA 11 11 2 0,sB 10 r6.2,sA 9 9 2 0,sI 6 r4.2,sA 5 5 2 0,sA 4 4 2 0,sI 3 r2],[(18,(Vtab.row r10.1)),(16,(Vtab.row r9.1)),(11,(Vtab.row r7.1)),(9,(Vtab.row r6.1)),(5,(Vtab.row r4.1)),(4,(Vtab.row r3))]⟩ (fun s => s = ⟨113,0,[sB 2 false],[]⟩) := by
 refine mU tOk K6x12 [(0,[2]),(1,[]),(3,[]),(4,[])] 42 [⟨[2],29,4,68⟩] [4,3,1,0] rfl kr (fun cx => ?_)
 refine mB1 tOk K6x12 2 kr kr ?_
 refine lV tOk [.rd,.rd] [.box 4] (impl_VtabOk n r3 r2 r11 er11) kr kr kr kr (.inr (rets_cons (mine_cons mine_lit mine_nil) rets_nil)) ?_
 refine lF kr kr kr ?_
 refine mU tOk K6x12 [(5,[])] 40 [⟨[2],29,4,68⟩] [5,2,4,3,1,0] rfl kr (fun cx => ?_)
 refine aT ⟨113,0,[sB 73 (decide (r2 ≥ 1)),sB 70 r11,sB 72 (decide (r2 ≥ 1)),sI 71 r2,sI 69 r2,sR 68 4 2 0 2 true,sB 19 r10.2,sA 18 18 2 0,sB 17 r9.2,sA 16 16 2 0,sB 12 r7.2,sA 11 11 2 0,sB 10 r6.2,sA 9 9 2 0,sI 6 r4.2,sA 5 5 2 0,sA 4 4 2 0,sI 3 r2],[(18,(Vtab.row r10.1)),(16,(Vtab.row r9.1)),(11,(Vtab.row r7.1)),(9,(Vtab.row r6.1)),(5,(Vtab.row r4.1)),(4,(Vtab.row r3))]⟩ kr ?_
 rw [h2]
 refine mU tOk K6x12 [(6,[]),(7,[]),(8,[]),(9,[]),(10,[])] 35 [⟨[2],29,4,68⟩] [10,9,8,7,6,5,2,4,3,1,0] rfl kr (fun cx => ?_)
 refine aT ⟨113,0,[sB 78 (r11 == (decide (r2 ≤ 6))),sB 77 (r11 == (decide (r2 ≤ 6))),sB 76 (decide (r2 ≤ 6)),sB 75 (decide (r2 ≤ 6)),sI 74 r2,sB 73 true,sB 70 r11,sB 72 true,sI 71 r2,sI 69 r2,sR 68 4 2 0 2 true,sB 19 r10.2,sA 18 18 2 0,sB 17 r9.2,sA 16 16 2 0,sB 12 r7.2,sA 11 11 2 0,sB 10 r6.2,sA 9 9 2 0,sI 6 r4.2,sA 5 5 2 0,sA 4 4 2 0,sI 3 r2],[(18,(Vtab.row r10.1)),(16,(Vtab.row r9.1)),(11,(Vtab.row r7.1)),(9,(Vtab.row r6.1)),(5,(Vtab.row r4.1)),(4,(Vtab.row r3))]⟩ kr ?_
 rw [h9]
 refine mU tOk K6x12 [(11,[]),(12,[]),(13,[]),(14,[]),(15,[]),(16,[]),(17,[]),(18,[]),(19,[]),(20,[]),(21,[]),(22,[]),(23,[]),(24,[]),(25,[]),(26,[]),(27,[]),(28,[]),(29,[]),(30,[]),(31,[]),(32,[]),(33,[]),(34,[]),(35,[]),(36,[]),(37,[]),(38,[]),(39,[]),(40,[]),(41,[]),(42,[]),(43,[]),(44,[]),(45,[])] 0 [⟨[2],29,4,68⟩] [45,44,43,42,41,40,39,38,37,36,35,34,33,32,31,30,29,28,27,26,25,24,23,22,21,20,19,18,17,16,15,14,13,12,11,10,9,8,7,6,5,2,4,3,1,0] rfl kr (fun cx => ?_)
 exact mD K6x12 [2] [] _ kr kr rfl
theorem laws_FnNetworksBent_D14 (n : Nat) (r3 : Vtab) (r2 : Int) (r11 : Bool) (r10 : Vtab × Bool) (r9 : Vtab × Bool) (r7 : Vtab × Bool) (r6 : Vtab × Bool) (r4 : Vtab × Int) (r18 : Bool) (r19 : Bool) (er11 : (impl_VtabOkF n r3 r2) = some r11) (h2 : (decide (r2 ≥ 1)) = true) (h9 : (r11 == (decide (r2 ≤ 6))) = true) (er18 : (impl_VtabOkF n r4.1 r4.2) = some r18) (er19 : (spec_VtabOkF n r4.1 r4.2) = some r19) (h10 : (r18 == r19) = false) (cx : Cx) : AT Try.prog cx (rg Try.f6 12) [] 46 [] ⟨113,0,[sB 19 r10.2,sA 18 18 2 0,sB 17 r9.2,sA 16 16 2 0,sB 12 r7.2,sA 11 11 2 0,sB 10 r6.2,sA 9 9 2 0,sI 6 r4.2,sA 5 5 2 0,sA 4 4 2 0,sI 3 r2],[(18,(Vtab.row r10.1)),(16,(Vtab.row r9.1)),(11,(Vtab.row r7.1)),(9,(Vtab.row r6.1)),(5,(Vtab.row r4.1)),(4,(Vtab.row r3))]⟩ (fun s => s = ⟨113,0,[sB 2 false],[]⟩) := by
 refine mU tOk K6x12 [(0,[2,13,16]),(1,[]),(3,[]),(4,[])] 42 [⟨[2,13,16],29,4,68⟩] [4,3,1,0] rfl kr (fun cx => ?_)
 refine mB1 tOk K6x12 2 kr kr ?_
 refine lV tOk [.rd,.rd] [.box 4] (impl_VtabOk n r3 r2 r11 er11) kr kr kr kr (.inr (rets_cons (mine_cons mine_lit mine_nil) rets_nil)) ?_
 refine lF kr kr kr ?_
 refine mU tOk K6x12 [(5,[])] 40 [⟨[2,13,16],29,4,68⟩] [5,2,4,3,1,0] rfl kr (fun cx => ?_)
 refine aT ⟨113,0,[sB 73 (decide (r2 ≥ 1)),sB 70 r11,sB 72 (decide (r2 ≥ 1)),sI 71 r2,sI 69 r2,sR 68 4 2 0 2 true,sB 19 r10.2,sA 18 18 2 0,sB 17 r9.2,sA 16 16 2 0,sB 12 r7.2,sA 11 11 2 0,sB 10 r6.2,sA 9 9 2 0,sI 6 r4.2,sA 5 5 2 0,sA 4 4 2 0,sI 3 r2],[(18,(Vtab.row r10.1)),(16,(Vtab.row r9.1)),(11,(Vtab.row r7.1)),(9,(Vtab.row r6.1)),(5,(Vtab.row r4.1)),(4,(Vtab.row r3))]⟩ kr ?_
 rw [h2]
 refine mU tOk K6x12 [(6,[]),(7,[]),(8,[]),(9,[]),(10,[])] 35 [⟨[2,13,16],29,4,68⟩] [10,9,8,7,6,5,2,4,3,1,0] rfl kr (fun cx => ?_)
 refine aT ⟨113,0,[sB 78 (r11 == (decide (r2 ≤ 6))),sB 77 (r11 == (decide (r2 ≤ 6))),sB 76 (decide (r2 ≤ 6)),sB 75 (decide (r2 ≤ 6)),sI 74 r2,sB 73 true,sB 70 r11,sB 72 true,sI 71 r2,sI 69 r2,sR 68 4 2 0 2 true,sB 19 r10.2,sA 18 18 2 0,sB 17 r9.2,sA 16 16 2 0,sB 12 r7.2,sA 11 11 2 0,sB 10 r6.2,sA 9 9 2 0,sI 6 r4.2,sA 5 5 2 0,sA 4 4 2 0,sI 3 r2],[(18,(Vtab.row r10.1)),(16,(Vtab.row r9.1)),(11,(Vtab.row r7.1)),(9,(Vtab.row r6.1)),(5,(Vtab.row r4.1)),(4,(Vtab.row r3))]⟩ kr ?_
 rw [h9]
 refine mU tOk K6x12 [(11,[13,16]),(12,[]),(14,[16]),(15,[])] 31 [⟨[16],29,5,82⟩,⟨[13,16],29,5,79⟩,⟨[2,13,16],29,4,68⟩] [15,14,12,11,10,9,8,7,6,5,2,4,3,1,0] rfl kr (fun cx => ?_)
 refine mB1 tOk K6x12 13 kr kr ?_
 refine lV tOk [.rd,.rd] [.box 5] (impl_VtabOk n r4.1 r4.2 r18 er18) kr kr kr kr (.inr (rets_cons (mine_cons mine_lit mine_nil) rets_nil)) ?_
 refine lF kr kr kr ?_
 refine mB1 tOk K6x12 16 kr kr ?_
 refine lV tOk [.rd,.rd] [.box 5] (spec_VtabOk n r4.1 r4.2 r19 er19) kr kr kr kr (.inr (rets_cons (mine_cons mine_lit mine_nil) rets_nil)) ?_
 refine lF kr kr kr ?_
 refine mU tOk K6x12 [(17,[]),(18,[]),(19,[])] 26 [⟨[16],29,5,82⟩,⟨[13,16],29,5,79⟩,⟨[2,13,16],29,4,68⟩] [19,18,17,16,13,15,14,12,11,10,9,8,7,6,5,2,4,3,1,0] rfl kr (fun cx => ?_)
 refine aT ⟨113,0,[sB 87 (r18 == r19),sB 86 (r18 == r19),sB 85 (r18 == r19),sB 84 r19,sB 81 r18,sI 83 r4.2,sR 82 5 2 0 2 true,sI 80 r4.2,sR 79 5 2 0 2 true,sB 78 true,sB 77 true,sB 76 (decide (r2 ≤ 6)),sB 75 (decide (r2 ≤ 6)),sI 74 r2,sB 73 true,sB 70 r11,sB 72 true,sI 71 r2,sI 69 r2,sR 68 4 2 0 2 true,sB 19 r10.2,sA 18 18 2 0,sB 17 r9.2,sA 16 16 2 0,sB 12 r7.2,sA 11 11 2 0,sB 10 r6.2,sA 9 9 2 0,sI 6 r4.2,sA 5 5 2 0,sA 4 4 2 0,sI 3 r2],[(18,(Vtab.row r10.1)),(16,(Vtab.row r9.1)),(11,(Vtab.row r7.1)),(9,(Vtab.row r6.1)),(5,(Vtab.row r4.1)),(4,(Vtab.row r3))]⟩ kr ?_
 rw [h10]
 refine mU tOk K6x12 [(20,[]),(21,[]),(22,[]),(23,[]),(24,[]),(25,[]),(26,[]),(27,[]),(28,[]),(29,[]),(30,[]),(31,[]),(32,[]),(33,[]),(34,[]),(35,[]),(36,[]),(37,[]),(38,[]),(39,[]),(40,[]),(41,[]),(42,[]),(43,[]),(44,[]),(45,[])] 0 [⟨[16],29,5,82⟩,⟨[13,16],29,5,79⟩,⟨[2,13,16],29,4,68⟩] [45,44,43,42,41,40,39,38,37,36,35,34,33,32,31,30,29,28,27,26,25,24,23,22,21,20,19,18,17,16,13,15,14,12,11,10,9,8,7,6,5,2,4,3,1,0] rfl kr (fun cx => ?_)
 exact mD K6x12 [2] [] _ kr kr rfl
theorem laws_FnNetworksBent_D15 (n : Nat) (r7 : Vtab × Bool) (r6 : Vtab × Bool) (r19 : Bool) (r18 : Bool) (r4 : Vtab × Int) (r2 : Int) (r11 : Bool) (r10 : Vtab × Bool) (r9 : Vtab × Bool) (r3 : Vtab) (cx : Cx) : AT Try.prog cx (rg Try.f6 12) [⟨[16],29,5,82⟩,⟨[13,16],29,5,79⟩,⟨[2,13,16],29,4,68⟩] 21 [24,23,22,21,20,19,18,17,16,13,15,14,12,11,10,9,8,7,6,5,2,4,3,1,0] ⟨113,0,[sB 92 false,sB 91 false,sB 90 false,sB 89 r7.2,sB 88 r6.2,sB 87 true,sB 86 true,sB 85 true,sB 84 r19,sB 81 r18,sI 83 r4.2,sR 82 5 2 0 2 true,sI 80 r4.2,sR 79 5 2 0 2 true,sB 78 true,sB 77 true,sB 76 (decide (r2 ≤ 6)),sB 75 (decide (r2 ≤ 6)),sI 74 r2,sB 73 true,sB 70 r11,sB 72 true,sI 71 r2,sI 69 r2,sR 68 4 2 0 2 true,sB 19 r10.2,sA 18 18 2 0,sB 17 r9.2,sA 16 16 2 0,sB 12 r7.2,sA 11 11 2 0,sB 10 r6.2,sA 9 9 2 0,sI 6 r4.2,sA 5 5 2 0,sA 4 4 2 0,sI 3 r2],[(18,(Vtab.row r10.1)),(16,(Vtab.row r9.1)),(11,(Vtab.row r7.1)),(9,(Vtab.row r6.1)),(5,(Vtab.row r4.1)),(4,(Vtab.row r3))]⟩ (fun s => s = ⟨113,0,[sB 2 false],[]⟩) := by
 refine mU tOk K6x12 [(25,[]),(26,[]),(27,[]),(28,[]),(29,[]),(30,[]),(31,[]),(32,[]),(33,[]),(34,[]),(35,[]),(36,[]),(37,[]),(38,[]),(39,[]),(40,[]),(41,[]),(42,[]),(43,[]),(44,[]),(45,[])] 0 [⟨[16],29,5,82⟩,⟨[13,16],29,5,79⟩,⟨[2,13,16],29,4,68⟩] [45,44,43,42,41,40,39,38,37,36,35,34,33,32,31,30,29,28,27,26,25,24,23,22,21,20,19,18,17,16,13,15,14,12,11,10,9,8,7,6,5,2,4,3,1,0] rfl kr (fun cx => ?_)
 exact mD K6x12 [2] [] _ kr kr rfl
theorem laws_FnNetworksBent_D16 (n : Nat) (r3 : Vtab) (r2 : Int) (r11 : Bool) (r10 : Vtab × Bool) (r9 : Vtab × Bool) (r7 : Vtab × Bool) (r6 : Vtab × Bool) (r4 : Vtab × Int) (r18 : Bool) (r19 : Bool) (er11 : (impl_VtabOkF n r3 r2) = some r11) (h2 : (decide (r2 ≥ 1)) = true) (h9 : (r11 == (decide (r2 ≤ 6))) = true) (er18 : (impl_VtabOkF n r4.1 r4.2) = some r18) (er19 : (spec_VtabOkF n r4.1 r4.2) = some r19) (h10 : (r18 == r19) = true) (h11 : (r6.2 == r7.2) = false) (cx : Cx) : AT Try.prog cx (rg Try.f6 12) [] 46 [] ⟨113,0,[sB 19 r10.2,sA 18 18 2 0,sB 17 r9.2,sA 16 16 2 0,sB 12 r7.2,sA 11 11 2 0,sB 10 r6.2,sA 9 9 2 0,sI 6 r4.2,sA 5 5 2 0,sA 4 4 2 0,sI 3 r2],[(18,(Vtab.row r10.1)),(16,(Vtab.row r9.1)),(11,(Vtab.row r7.1)),(9,(Vtab.row r6.1)),(5,(Vtab.row r4.1)),(4,(Vtab.row r3))]⟩ (fun s => s = ⟨113,0,[sB 2 false],[]⟩) := by
 refine mU tOk K6x12 [(0,[2,13,16]),(1,[]),(3,[]),(4,[])] 42 [⟨[2,13,16],29,4,68⟩] [4,3,1,0] rfl kr (fun cx => ?_)
 refine mB1 tOk K6x12 2 kr kr ?_
 refine lV tOk [.rd,.rd] [.box 4] (impl_VtabOk n r3 r2 r11 er11) kr kr kr kr (.inr (rets_cons (mine_cons mine_lit mine_nil) rets_nil)) ?_
 refine lF kr kr kr ?_
 refine mU tOk K6x12 [(5,[])] 40 [⟨[2,13,16],29,4,68⟩] [5,2,4,3,1,0] rfl kr (fun cx => ?_)
 refine aT ⟨113,0,[sB 73 (decide (r2 ≥ 1)),sB 70 r11,sB 72 (decide (r2 ≥ 1)),sI 71 r2,sI 69 r2,sR 68 4 2 0 2 true,sB 19 r10.2,sA 18 18 2 0,sB 17 r9.2,sA 16 16 2 0,sB 12 r7.2,sA 11 11 2 0,sB 10 r6.2,sA 9 9 2 0,sI 6 r4.2,sA 5 5 2 0,sA 4 4 2 0,sI 3 r2],[(18,(Vtab.row r10.1)),(16,(Vtab.row r9.1)),(11,(Vtab.row r7.1)),(9,(Vtab.row r6.1)),(5,(Vtab.row r4.1)),(4,(Vtab.row r3))]⟩ kr ?_
 rw [h2]
 refine mU tOk K6x12 [(6,[]),(7,[]),(8,[]),(9,[]),(10,[])] 35 [⟨[2,13,16],29,4,68⟩] [10,9,8,7,6,5,2,4,3,1,0] rfl kr (fun cx => ?_)
 refine aT ⟨113,0,[sB 78 (r11 == (decide (r2 ≤ 6))),sB 77 (r11 == (decide (r2 ≤ 6))),sB 76 (decide (r2 ≤ 6)),sB 75 (decide (r2 ≤ 6)),sI 74 r2,sB 73 true,sB 70 r11,sB 72 true,sI 71 r2,sI 69 r2,sR 68 4 2 0 2 true,sB 19 r10.2,sA 18 18 2 0,sB 17 r9.2,sA 16 16 2 0,sB 12 r7.2,sA 11 11 2 0,sB 10 r6.2,sA 9 9 2 0,sI 6 r4.2,sA 5 5 2 0,sA 4 4 2 0,sI 3 r2],[(18,(Vtab.row r10.1)),(16,(Vtab.row r9.1)),(11,(Vtab.row r7.1)),(9,(Vtab.row r6.1)),(5,(Vtab.row r4.1)),(4,(Vtab.row r3))]⟩ kr ?_
 rw [h9]
 refine mU tOk K6x12 [(11,[13,16]),(12,[]),(14,[16]),(15,[])] 31 [⟨[16],29,5,82⟩,⟨[13,16],29,5,79⟩,⟨[2,13,16],29,4,68⟩] [15,14,12,11,10,9,8,7,6,5,2,4,3,1,0] rfl kr (fun cx => ?_)
 refine mB1 tOk K6x12 13 kr kr ?_
 refine lV tOk [.rd,.rd] [.box 5] (impl_VtabOk n r4.1 r4.2 r18 er18) kr kr kr kr (.inr (rets_cons (mine_cons mine_lit mine_nil) rets_nil)) ?_
 refine lF kr kr kr ?_
 refine mB1 tOk K6x12 16 kr kr ?_
 refine lV tOk [.rd,.rd] [.box 5] (spec_VtabOk n r4.1 r4.2 r19 er19) kr kr kr kr (.inr (rets_cons (mine_cons mine_lit mine_nil) rets_nil)) ?_
 refine lF kr kr kr ?_
 refine mU tOk K6x12 [(17,[]),(18,[]),(19,[])] 26 [⟨[16],29,5,82⟩,⟨[13,16],29,5,79⟩,⟨[2,13,16],29,4,68⟩] [19,18,17,16,13,15,14,12,11,10,9,8,7,6,5,2,4,3,1,0] rfl kr (fun cx => ?_)
 refine aT ⟨113,0,[sB 87 (r18 == r19),sB 86 (r18 == r19),sB 85 (r18 == r19),sB 84 r19,sB 81 r18,sI 83 r4.2,sR 82 5 2 0 2 true,sI 80 r4.2,sR 79 5 2 0 2 true,sB 78 true,sB 77 true,sB 76 (decide (r2 ≤ 6)),sB 75 (decide (r2 ≤ 6)),sI 74 r2,sB 73 true,sB 70 r11,sB 72 true,sI 71 r2,sI 69 r2,sR 68 4 2 0 2 true,sB 19 r10.2,sA 18 18 2 0,sB 17 r9.2,sA 16 16 2 0,sB 12 r7.2,sA 11 11 2 0,sB 10 r6.2,sA 9 9 2 0,sI 6 r4.2,sA 5 5 2 0,sA 4 4 2 0,sI 3 r2],[(18,(Vtab.row r10.1)),(16,(Vtab.row r9.1)),(11,(Vtab.row r7.1)),(9,(Vtab.row r6.1)),(5,(Vtab.row r4.1)),(4,(Vtab.row r3))]⟩ kr ?_
 rw [h10]
 refine mU tOk K6x12 [(20,[]),(21,[]),(22,[]),(23,[]),(24,[])] 21 [⟨[16],29,5,82⟩,⟨[13,16],29,5,79⟩,⟨[2,13,16],29,4,68⟩] [24,23,22,21,20,19,18,17,16,13,15,14,12,11,10,9,8,7,6,5,2,4,3,1,0] rfl kr (fun cx => ?_)
 refine aT ⟨113,0,[sB 92 (r6.2 == r7.2),sB 91 (r6.2 == r7.2),sB 90 (r6.2 == r7.2),sB 89 r7.2,sB 88 r6.2,sB 87 true,sB 86 true,sB 85 true,sB 84 r19,sB 81 r18,sI 83 r4.2,sR 82 5 2 0 2 true,sI 80 r4.2,sR 79 5 2 0 2 true,sB 78 true,sB 77 true,sB 76 (decide (r2 ≤ 6)),sB 75 (decide (r2 ≤ 6)),sI 74 r2,sB 73 true,sB 70 r11,sB 72 true,sI 71 r2,sI 69 r2,sR 68 4 2 0 2 true,sB 19 r10.2,sA 18 18 2 0,sB 17 r9.2,sA 16 16 2 0,sB 12 r7.2,sA 11 11 2 0,sB 10 r6.2,sA 9 9 2 0,sI 6 r4.2,sA 5 5 2 0,sA 4 4 2 0,sI 3 r2],[(18,(Vtab.row r10.1)),(16,(Vtab.row r9.1)),(11,(Vtab.row r7.1)),(9,(Vtab.row r6.1)),(5,(Vtab.row r4.1)),(4,(Vtab.row r3))]⟩ kr ?_
 rw [h11]
 refine aT ⟨113,0,[sB 92 false,sB 91 false,sB 90 false,sB 89 r7.2,sB 88 r6.2,sB 87 true,sB 86 true,sB 85 true,sB 84 r19,sB 81 r18,sI 83 r4.2,sR 82 5 2 0 2 true,sI 80 r4.2,sR 79 5 2 0 2 true,sB 78 true,sB 77 true,sB 76 (decide (r2 ≤ 6)),sB 75 (decide (r2 ≤ 6)),sI 74 r2,sB 73 true,sB 70 r11,sB 72 true,sI 71 r2,sI 69 r2,sR 68 4 2 0 2 true,sB 19 r10.2,sA 18 18 2 0,sB 17 r9.2,sA 16 16 2 0,sB 12 r7.2,sA 11 11 2 0,sB 10 r6.2,sA 9 9 2 0,sI 6 r4.2,sA 5 5 2 0,sA 4 4 2 0,sI 3 r2],[(18,(Vtab.row r10.1)),(16,(Vtab.row r9.1)),(11,(Vtab.row r7.1)),(9,(Vtab.row r6.1)),(5,(Vtab.row r4.1)),(4,(Vtab.row r3))]⟩ kr ?_
 exact laws_FnNetworksBent_D15 n r7 r6 r19 r18 r4 r2 r11 r10 r9 r3 cx
theorem laws_FnNetworksBent_D17 (n : Nat) (r9 : Vtab × Bool) (r10 : Vtab × Bool) (r7 : Vtab × Bool) (r6 : Vtab × Bool) (r19 : Bool) (r18 : Bool) (r4 : Vtab × Int) (r2 : Int) (r11 : Bool) (r3 : Vtab) (h12 : (r9.2 == r10.2) = false) (cx : Cx) : AT Try.prog cx (rg Try.f6 12) [⟨[16],29,5,82⟩,⟨[13,16],29,5,79⟩,⟨[2,13,16],29,4,68⟩] 21 [24,23,22,21,20,19,18,17,16,13,15,14,12,11,10,9,8,7,6,5,2,4,3,1,0] ⟨113,0,[sB 92 true,sB 91 true,sB 90 true,sB 89 r7.2,sB 88 r6.2,sB 87 true,sB 86 true,sB 85 true,sB 84 r19,sB 81 r18,sI 83 r4.2,sR 82 5 2 0 2 true,sI 80 r4.2,sR 79 5 2 0 2 true,sB 78 true,sB 77 true,sB 76 (decide (r2 ≤ 6)),sB 75 (decide (r2 ≤ 6)),sI 74 r2,sB 73 true,sB 70 r11,sB 72 true,sI 71 r2,sI 69 r2,sR 68 4 2 0 2 true,sB 19 r10.2,sA 18 18 2 0,sB 17 r9.2,sA 16 16 2 0,sB 12 r7.2,sA 11 11 2 0,sB 10 r6.2,sA 9 9 2 0,sI 6 r4.2,sA 5 5 2 0,sA 4 4 2 0,sI 3 r2],[(18,(Vtab.row r10.1)),(16,(Vtab.row r9.1)),(11,(Vtab.row r7.1)),(9,(Vtab.row r6.1)),(5,(Vtab.row r4.1)),(4,(Vtab.row r3))]⟩ (fun s => s = ⟨113,0,[sB 2 false],[]⟩) := by
 refine mU tOk K6x12 [(25,[]),(26,[]),(27,[]),(28,[]),(29,[])] 16 [⟨[16],29,5,82⟩,⟨[13,16],29,5,79⟩,⟨[2,13,16],29,4,68⟩] [29,28,27,26,25,24,23,22,21,20,19,18,17,16,13,15,14,12,11,10,9,8,7,6,5,2,4,3,1,0] rfl kr (fun cx => ?_)
 refine aT ⟨113,0,[sB 97 (r9.2 == r10.2),sB 96 (r9.2 == r10.2),sB 95 (r9.2 == r10.2),sB 94 r10.2,sB 93 r9.2,sB 92 true,sB 91 true,sB 90 true,sB 89 r7.2,sB 88 r6.2,sB 87 true,sB 86 true,sB 85 true,sB 84 r19,sB 81 r18,sI 83 r4.2,sR 82 5 2 0 2 true,sI 80 r4.2,sR 79 5 2 0 2 true,sB 78 true,sB 77 true,sB 76 (decide (r2 ≤ 6)),sB 75 (decide (r2 ≤ 6)),sI 74 r2,sB 73 true,sB 70 r11,sB 72 true,sI 71 r2,sI 69 r2,sR 68 4 2 0 2 true,sB 19 r10.2,sA 18 18 2 0,sB 17 r9.2,sA 16 16 2 0,sB 12 r7.2,sA 11 11 2 0,sB 10 r6.2,sA 9 9 2 0,sI 6 r4.2,sA 5 5 2 0,sA 4 4 2 0,sI 3 r2],[(18,(Vtab.row r10.1)),(16,(Vtab.row r9.1)),(11,(Vtab.row r7.1)),(9,(Vtab.row r6.1)),(5,(Vtab.row r4.1)),(4,(Vtab.row r3))]⟩ kr ?_
 rw [h12]
 refine mU tOk K6x12 [(30,[]),(31,[]),(32,[]),(33,[]),(34,[]),(35,[]),(36,[]),(37,[]),(38,[]),(39,[]),(40,[]),(41,[]),(42,[]),(43,[]),(44,[]),(45,[])] 0 [⟨[16],29,5,82⟩,⟨[13,16],29,5,79⟩,⟨[2,13,16],29,4,68⟩] [45,44,43,42,41,40,39,38,37,36,35,34,33,32,31,30,29,28,27,26,25,24,23,22,21,20,19,18,17,16,13,15,14,12,11,10,9,8,7,6,5,2,4,3,1,0] rfl kr (fun cx => ?_)
 exact mD K6x12 [2] [] _ kr kr rfl
theorem laws_FnNetworksBent_D18 (n : Nat) (r3 : Vtab) (r2 : Int) (r11 : Bool) (r10 : Vtab × Bool) (r9 : Vtab × Bool) (r7 : Vtab × Bool) (r6 : Vtab × Bool) (r4 : Vtab × Int) (r18 : Bool) (r19 : Bool) (er11 : (impl_VtabOkF n r3 r2) = some r11) (h2 : (decide (r2 ≥ 1)) = true) (h9 : (r11 == (decide (r2 ≤ 6))) = true) (er18 : (impl_VtabOkF n r4.1 r4.2) = some r18) (er19 : (spec_VtabOkF n r4.1 r4.2) = some r19) (h10 : (r18 == r19) = true) (h11 : (r6.2 == r7.2) = true) (h12 : (r9.2 == r10.2) = false) (cx : Cx) : AT Try.prog cx (rg Try.f6 12) [] 46 [] ⟨113,0,[sB 19 r10.2,sA 18 18 2 0,sB 17 r9.2,sA 16 16 2 0,sB 12 r7.2,sA 11 11 2 0,sB 10 r6.2,sA 9 9 2 0,sI 6 r4.2,sA 5 5 2 0,sA 4 4 2 0,sI 3 r2],[(18,(Vtab.row r10.1)),(16,(Vtab.row r9.1)),(11,(Vtab.row r7.1)),(9,(Vtab.row r6.1)),(5,(Vtab.row r4.1)),(4,(Vtab.row r3))]⟩ (fun s => s = ⟨113,0,[sB 2 false],[]⟩) := by
 refine mU tOk K6x12 [(0,[2,13,16]),(1,[]),(3,[]),(4,[])] 42 [⟨[2,13,16],29,4,68⟩] [4,3,1,0] rfl kr (fun cx => ?_)
 refine mB1 tOk K6x12 2 kr kr ?_
 refine lV tOk [.rd,.rd] [.box 4] (impl_VtabOk n r3 r2 r11 er11) kr kr kr kr (.inr (rets_cons (mine_cons mine_lit mine_nil) rets_nil)) ?_
 refine lF kr kr kr ?_
 refine mU tOk K6x12 [(5,[])] 40 [⟨[2,13,16],29,4,68⟩] [5,2,4,3,1,0] rfl kr (fun cx => ?_)
 refine aT ⟨113,0,[sB 73 (decide (r2 ≥ 1)),sB 70 r11,sB 72 (decide (r2 ≥ 1)),sI 71 r2,sI 69 r2,sR 68 4 2 0 2 true,sB 19 r10.2,sA 18 18 2 0,sB 17 r9.2,sA 16 16 2 0,sB 12 r7.2,sA 11 11 2 0,sB 10 r6.2,sA 9 9 2 0,sI 6 r4.2,sA 5 5 2 0,sA 4 4 2 0,sI 3 r2],[(18,(Vtab.row r10.1)),(16,(Vtab.row r9.1)),(11,(Vtab.row r7.1)),(9,(Vtab.row r6.1)),(5,(Vtab.row r4.1)),(4,(Vtab.row r3))]⟩ kr ?_
 rw [h2]
 refine mU tOk K6x12 [(6,[]),(7,[]),(8,[]),(9,[]),(10,[])] 35 [⟨[2,13,16],29,4,68⟩] [10,9,8,7,6,5,2,4,3,1,0] rfl kr (fun cx => ?_)
 refine aT ⟨113,0,[sB 78 (r11 == (decide (r2 ≤ 6))),sB 77 (r11 == (decide (r2 ≤ 6))),sB 76 (decide (r2 ≤ 6)),sB 75 (decide (r2 ≤ 6)),sI 74 r2,sB 73 true,sB 70 r11,sB 72 true,sI 71 r2,sI 69 r2,sR 68 4 2 0 2 true,sB 19 r10.2,sA 18 18 2 0,sB 17 r9.2,sA 16 16 2 0,sB 12 r7.2,sA 11 11 2 0,sB 10 r6.2,sA 9 9 2 0,sI 6 r4.2,sA 5 5 2 0,sA 4 4 2 0,sI 3 r2],[(18,(Vtab.row r10.1)),(16,(Vtab.row r9.1)),(11,(Vtab.row r7.1)),(9,(Vtab.row r6.1)),(5,(Vtab.row r4.1)),(4,(Vtab.row r3))]⟩ kr ?_
 rw [h9]
 refine mU tOk K6x12 [(11,[13,16]),(12,[]),(14,[16]),(15,[])] 31 [⟨[16],29,5,82⟩,⟨[13,16],29,5,79⟩,⟨[2,13,16],29,4,68⟩] [15,14,12,11,10,9,8,7,6,5,2,4,3,1,0] rfl kr (fun cx => ?_)
 refine mB1 tOk K6x12 13 kr kr ?_
 refine lV tOk [.rd,.rd] [.box 5] (impl_VtabOk n r4.1 r4.2 r18 er18) kr kr kr kr (.inr (rets_cons (mine_cons mine_lit mine_nil) rets_nil)) ?_
 refine lF kr kr kr ?_
 refine mB1 tOk K6x12 16 kr kr ?_
 refine lV tOk [.rd,.rd] [.box 5] (spec_VtabOk n r4.1 r4.2 r19 er19) kr kr kr kr (.inr (rets_cons (mine_cons mine_lit mine_nil) rets_nil)) ?_
 refine lF kr kr kr ?_
 refine mU tOk K6x12 [(17,[]),(18,[]),(19,[])] 26 [⟨[16],29,5,82⟩,⟨[13,16],29,5,79⟩,⟨[2,13,16],29,4,68⟩] [19,18,17,16,13,15,14,12,11,10,9,8,7,6,5,2,4,3,1,0] rfl kr (fun cx => ?_)
 refine aT ⟨113,0,[sB 87 (r18 == r19),sB 86 (r18 == r19),sB 85 (r18 == r19),sB 84 r19,sB 81 r18,sI 83 r4.2,sR 82 5 2 0 2 true,sI 80 r4.2,sR 79 5 2 0 2 true,sB 78 true,sB 77 true,sB 76 (decide (r2 ≤ 6)),sB 75 (decide (r2 ≤ 6)),sI 74 r2,sB 73 true,sB 70 r11,sB 72 true,sI 71 r2,sI 69 r2,sR 68 4 2 0 2 true,sB 19 r10.2,sA 18 18 2 0,sB 17 r9.2,sA 16 16 2 0,sB 12 r7.2,sA 11 11 2 0,sB 10 r6.2,sA 9 9 2 0,sI 6 r4.2,sA 5 5 2 0,sA 4 4 2 0,sI 3 r2],[(18,(Vtab.row r10.1)),(16,(Vtab.row r9.1)),(11,(Vtab.row r7.1)),(9,(Vtab.row r6.1)),(5,(Vtab.row r4.1)),(4,(Vtab.row r3))]⟩ kr ?_
 rw [h10]
 refine mU tOk K6x12 [(20,[]),(21,[]),(22,[]),(23,[]),(24,[])] 21 [⟨[16],29,5,82⟩,⟨[13,16],29,5,79⟩,⟨[2,13,16],29,4,68⟩] [24,23,22,21,20,19,18,17,16,13,15,14,12,11,10,9,8,7,6,5,2,4,3,1,0] rfl kr (fun cx => ?_)
 refine aT ⟨113,0,[sB 92 (r6.2 == r7.2),sB 91 (r6.2 == r7.2),sB 90 (r6.2 == r7.2),sB 89 r7.2,sB 88 r6.2,sB 87 true,sB 86 true,sB 85 true,sB 84 r19,sB 81 r18,sI 83 r4.2,sR 82 5 2 0 2 true,sI 80 r4.2,sR 79 5 2 0 2 true,sB 78 true,sB 77 true,sB 76 (decide (r2 ≤ 6)),sB 75 (decide (r2 ≤ 6)),sI 74 r2,sB 73 true,sB 70 r11,sB 72 true,sI 71 r2,sI 69 r2,sR 68 4 2 0 2 true,sB 19 r10.2,sA 18 18 2 0,sB 17 r9.2,sA 16 16 2 0,sB 12 r7.2,sA 11 11 2 0,sB 10 r6.2,sA 9 9 2 0,sI 6 r4.2,sA 5 5 2 0,sA 4 4 2 0,sI 3 r2],[(18,(Vtab.row r10.1)),(16,(Vtab.row r9.1)),(11,(Vtab.row r7.1)),(9,(Vtab.row r6.1)),(5,(Vtab.row r4.1)),(4,(Vtab.row r3))]⟩ kr ?_
 rw [h11]
 refine aT ⟨113,0,[sB 92 true,sB 91 true,sB 90 true,sB 89 r7.2,sB 88 r6.2,sB 87 true,sB 86 true,sB 85 true,sB 84 r19,sB 81 r18,sI 83 r4.2,sR 82 5 2 0 2 true,sI 80 r4.2,sR 79 5 2 0 2 true,sB 78 true,sB 77 true,sB 76 (decide (r2 ≤ 6)),sB 75 (decide (r2 ≤ 6)),sI 74 r2,sB 73 true,sB 70 r11,sB 72 true,sI 71 r2,sI 69 r2,sR 68 4 2 0 2 true,sB 19 r10.2,sA 18 18 2 0,sB 17 r9.2,sA 16 16 2 0,sB 12 r7.2,sA 11 11 2 0,sB 10 r6.2,sA 9 9 2 0,sI 6 r4.2,sA 5 5 2 0,sA 4 4 2 0,sI 3 r2],[(18,(Vtab.row r10.1)),(16,(Vtab.row r9.1)),(11,(Vtab.row r7.1)),(9,(Vtab.row r6.1)),(5,(Vtab.row r4.1)),(4,(Vtab.row r3))]⟩ kr ?_
 exact laws_FnNetworksBent_D17 n r9 r10 r7 r6 r19 r18 r4 r2 r11 r3 h12 cx
theorem laws_FnNetworksBent_D19 (n : Nat) (r9 : Vtab × Bool) (r10 : Vtab × Bool) (r7 : Vtab × Bool) (r6 : Vtab × Bool) (r19 : Bool) (r18 : Bool) (r4 : Vtab × Int) (r2 : Int) (r11 : Bool) (r3 : Vtab) (r20 : Bool) (h12 : (r9.2 == r10.2) = true) (er20 : (laws_sameVtabF n r6.1 r7.1) = some r20) (h13 : r20 = false) (cx : Cx) : AT Try.prog cx (rg Try.f6 12) [⟨[16,32],29,5,82⟩,⟨[13,16,32],29,5,79⟩,⟨[2,13,16,32],29,4,68⟩] 21 [24,23,22,21,20,19,18,17,16,13,15,14,12,11,10,9,8,7,6,5,2,4,3,1,0] ⟨113,0,[sB 92 true,sB 91 true,sB 90 true,sB 89 r7.2,sB 88 r6.2,sB 87 true,sB 86 true,sB 85 true,sB 84 r19,sB 81 r18,sI 83 r4.2,sR 82 5 2 0 2 true,sI 80 r4.2,sR 79 5 2 0 2 true,sB 78 true,sB 77 true,sB 76 (decide (r2 ≤ 6)),sB 75 (decide (r2 ≤ 6)),sI 74 r2,sB 73 true,sB 70 r11,sB 72 true,sI 71 r2,sI 69 r2,sR 68 4 2 0 2 true,sB 19 r10.2,sA 18 18 2 0,sB 17 r9.2,sA 16 16 2 0,sB 12 r7.2,sA 11 11 2 0,sB 10 r6.2,sA 9 9 2 0,sI 6 r4.2,sA 5 5 2 0,sA 4 4 2 0,sI 3 r2],[(18,(Vtab.row r10.1)),(16,(Vtab.row r9.1)),(11,(Vtab.row r7.1)),(9,(Vtab.row r6.1)),(5,(Vtab.row r4.1)),(4,(Vtab.row r3))]⟩ (fun s => s = ⟨113,0,[sB 2 false],[]⟩) := by
 refine mU tOk K6x12 [(25,[]),(26,[]),(27,[]),(28,[]),(29,[])] 16 [⟨[16,32],29,5,82⟩,⟨[13,16,32],29,5,79⟩,⟨[2,13,16,32],29,4,68⟩] [29,28,27,26,25,24,23,22,21,20,19,18,17,16,13,15,14,12,11,10,9,8,7,6,5,2,4,3,1,0] rfl kr (fun cx => ?_)
 refine aT ⟨113,0,[sB 97 (r9.2 == r10.2),sB 96 (r9.2 == r10.2),sB 95 (r9.2 == r10.2),sB 94 r10.2,sB 93 r9.2,sB 92 true,sB 91 true,sB 90 true,sB 89 r7.2,sB 88 r6.2,sB 87 true,sB 86 true,sB 85 true,sB 84 r19,sB 81 r18,sI 83 r4.2,sR 82 5 2 0 2 true,sI 80 r4.2,sR 79 5 2 0 2 true,sB 78 true,sB 77 true,sB 76 (decide (r2 ≤ 6)),sB 75 (decide (r2 ≤ 6)),sI 74 r2,sB 73 true,sB 70 r11,sB 72 true,sI 71 r2,sI 69 r2,sR 68 4 2 0 2 true,sB 19 r10.2,sA 18 18 2 0,sB 17 r9.2,sA 16 16 2 0,sB 12 r7.2,sA 11 11 2 0,sB 10 r6.2,sA 9 9 2 0,sI 6 r4.2,sA 5 5 2 0,sA 4 4 2 0,sI 3 r2],[(18,(Vtab.row r10.1)),(16,(Vtab.row r9.1)),(11,(Vtab.row r7.1)),(9,(Vtab.row r6.1)),(5,(Vtab.row r4.1)),(4,(Vtab.row r3))]⟩ kr ?_
 rw [h12]
 refine mU tOk K6x12 [(30,[32]),(31,[32])] 14 [⟨[32],29,11,99⟩,⟨[32],29,9,98⟩,⟨[16,32],29,5,82⟩,⟨[13,16,32],29,5,79⟩,⟨[2,13,16,32],29,4,68⟩] [31,30,29,28,27,26,25,24,23,22,21,20,19,18,17,16,13,15,14,12,11,10,9,8,7,6,5,2,4,3,1,0] rfl kr (fun cx => ?_)
 refine mB1 tOk K6x12 32 kr kr ?_
 refine lV tOk [.rd,.rd] [.box 9,.box 11] (laws_sameVtab n r6.1 r7.1 r20 er20) kr kr kr kr (.inr (rets_cons (mine_cons mine_lit mine_nil) rets_nil)) ?_
 refine lF kr kr kr ?_
 refine mU tOk K6x12 [(33,[]),(34,[])] 11 [⟨[32],29,11,99⟩,⟨[32],29,9,98⟩,⟨[16,32],29,5,82⟩,⟨[13,16,32],29,5,79⟩,⟨[2,13,16,32],29,4,68⟩] [34,33,32,31,30,29,28,27,26,25,24,23,22,21,20,19,18,17,16,13,15,14,12,11,10,9,8,7,6,5,2,4,3,1,0] rfl kr (fun cx => ?_)
 refine aT ⟨113,0,[sB 102 r20,sB 101 r20,sB 100 r20,sR 99 11 2 0 2 true,sR 98 9 2 0 2 true,sB 97 true,sB 96 true,sB 95 true,sB 94 r10.2,sB 93 r9.2,sB 92 true,sB 91 true,sB 90 true,sB 89 r7.2,sB 88 r6.2,sB 87 true,sB 86 true,sB 85 true,sB 84 r19,sB 81 r18,sI 83 r4.2,sR 82 5 2 0 2 true,sI 80 r4.2,sR 79 5 2 0 2 true,sB 78 true,sB 77 true,sB 76 (decide (r2 ≤ 6)),sB 75 (decide (r2 ≤ 6)),sI 74 r2,sB 73 true,sB 70 r11,sB 72 true,sI 71 r2,sI 69 r2,sR 68 4 2 0 2 true,sB 19 r10.2,sA 18 18 2 0,sB 17 r9.2,sA 16 16 2 0,sB 12 r7.2,sA 11 11 2 0,sB 10 r6.2,sA 9 9 2 0,sI 6 r4.2,sA 5 5 2 0,sA 4 4 2 0,sI 3 r2],[(18,(Vtab.row r10.1)),(16,(Vtab.row r9.1)),(11,(Vtab.row r7.1)),(9,(Vtab.row r6.1)),(5,(Vtab.row r4.1)),(4,(Vtab.row r3))]⟩ kr ?_
 rw [h13]
 refine mU tOk K6x12 [(35,[]),(36,[]),(37,[]),(38,[]),(39,[]),(40,[]),(41,[]),(42,[]),(43,[]),(44,[]),(45,[])] 0 [⟨[32],29,11,99⟩,⟨[32],29,9,98⟩,⟨[16,32],29,5,82⟩,⟨[13,16,32],29,5,79⟩,⟨[2,13,16,32],29,4,68⟩] [45,44,43,42,41,40,39,38,37,36,35,34,33,32,31,30,29,28,27,26,25,24,23,22,21,20,19,18,17,16,13,15,14,12,11,10,9,8,7,6,5,2,4,3,1,0] rfl kr (fun cx => ?_)
 exact mD K6x12 [2] [] _ kr kr rfl
theorem laws_FnNetworksBent_D20 (n : Nat) (r3 : Vtab) (r2 : Int) (r11 : Bool) (r10 : Vtab × Bool) (r9 : Vtab × Bool) (r7 : Vtab × Bool) (r6 : Vtab × Bool) (r4 : Vtab × Int) (r18 : Bool) (r19 : Bool) (r20 : Bool) (er11 : (impl_VtabOkF n r3 r2) = some r11) (h2 : (decide (r2 ≥ 1)) = true) (h9 : (r11 == (decide (r2 ≤ 6))) = true) (er18 : (impl_VtabOkF n r4.1 r4.2) = some r18) (er19 : (spec_VtabOkF n r4.1 r4.2) = some r19) (h10 : (r18 == r19) = true) (h11 : (r6.2 == r7.2) = true) (h12 : (r9.2 == r10.2) = true) (er20 : (laws_sameVtabF n r6.1 r7.1) = some r20) (h13 : r20 = false) (cx : Cx) : AT Try.prog cx (rg Try.f6 12) [] 46 [] ⟨113,0,[sB 19 r10.2,sA 18 18 2 0,sB 17 r9.2,sA 16 16 2 0,sB 12 r7.2,sA 11 11 2 0,sB 10 r6.2,sA 9 9 2 0,sI 6 r4.2,sA 5 5 2 0,sA 4 4 2 0,sI 3 r2],[(18,(Vtab.row r10.1)),(16,(Vtab.row r9.1)),(11,(Vtab.row r7.1)),(9,(Vtab.row r6.1)),(5,(Vtab.row r4.1)),(4,(Vtab.row r3))]⟩ (fun s => s = ⟨113,0,[sB 2 false],[]⟩) := by
 refine mU tOk K6x12 [(0,[2,13,16,32]),(1,[]),(3,[]),(4,[])] 42 [⟨[2,13,16,32],29,4,68⟩] [4,3,1,0] rfl kr (fun cx => ?_)
 refine mB1 tOk K6x12 2 kr kr ?_
 refine lV tOk [.rd,.rd] [.box 4] (impl_VtabOk n r3 r2 r11 er11) kr kr kr kr (.inr (rets_cons (mine_cons mine_lit mine_nil) rets_nil)) ?_
 refine lF kr kr kr ?_
 refine mU tOk K6x12 [(5,[])] 40 [⟨[2,13,16,32],29,4,68⟩] [5,2,4,3,1,0] rfl kr (fun cx => ?_)
 refine aT ⟨113,0,[sB 73 (decide (r2 ≥ 1)),sB 70 r11,sB 72 (decide (r2 ≥ 1)),sI 71 r2,sI 69 r2,sR 68 4 2 0 2 true,sB 19 r10.2,sA 18 18 2 0,sB 17 r9.2,sA 16 16 2 0,sB 12 r7.2,sA 11 11 2 0,sB 10 r6.2,sA 9 9 2 0,sI 6 r4.2,sA 5 5 2 0,sA 4 4 2 0,sI 3 r2],[(18,(Vtab.row r10.1)),(16,(Vtab.row r9.1)),(11,(Vtab.row r7.1)),(9,(Vtab.row r6.1)),(5,(Vtab.row r4.1)),(4,(Vtab.row r3))]⟩ kr ?_
 rw [h2]
 refine mU tOk K6x12 [(6,[]),(7,[]),(8,[]),(9,[]),(10,[])] 35 [⟨[2,13,16,32],29,4,68⟩] [10,9,8,7,6,5,2,4,3,1,0] rfl kr (fun cx => ?_)
 refine aT ⟨113,0,[sB 78 (r11 == (decide (r2 ≤ 6))),sB 77 (r11 == (decide (r2 ≤ 6))),sB 76 (decide (r2 ≤ 6)),sB 75 (decide (r2 ≤ 6)),sI 74 r2,sB 73 true,sB 70 r11,sB 72 true,sI 71 r2,sI 69 r2,sR 68 4 2 0 2 true,sB 19 r10.2,sA 18 18 2 0,sB 17 r9.2,sA 16 16 2 0,sB 12 r7.2,sA 11 11 2 0,sB 10 r6.2,sA 9 9 2 0,sI 6 r4.2,sA 5 5 2 0,sA 4 4 2 0,sI 3 r2],[(18,(Vtab.row r10.1)),(16,(Vtab.row r9.1)),(11,(Vtab.row r7.1)),(9,(Vtab.row r6.1)),(5,(Vtab.row r4.1)),(4,(Vtab.row r3))]⟩ kr ?_
 rw [h9]
 refine mU tOk K6x12 [(11,[13,16,32]),(12,[]),(14,[16,32]),(15,[])] 31 [⟨[16,32],29,5,82⟩,⟨[13,16,32],29,5,79⟩,⟨[2,13,16,32],29,4,68⟩] [15,14,12,11,10,9,8,7,6,5,2,4,3,1,0] rfl kr (fun cx => ?_)
 refine mB1 tOk K6x12 13 kr kr ?_
 refine lV tOk [.rd,.rd] [.box 5] (impl_VtabOk n r4.1 r4.2 r18 er18) kr kr kr kr (.inr (rets_cons (mine_cons mine_lit mine_nil) rets_nil)) ?_
 refine lF kr kr kr ?_
 refine mB1 tOk K6x12 16 kr kr ?_
 refine lV tOk [.rd,.rd] [.box 5] (spec_VtabOk n r4.1 r4.2 r19 er19) kr kr kr kr (.inr (rets_cons (mine_cons mine_lit mine_nil) rets_nil)) ?_
 refine lF kr kr kr ?_
 refine mU tOk K6x12 [(17,[]),(18,[]),(19,[])] 26 [⟨[16,32],29,5,82⟩,⟨[13,16,32],29,5,79⟩,⟨[2,13,16,32],29,4,68⟩] [19,18,17,16,13,15,14,12,11,10,9,8,7,6,5,2,4,3,1,0] rfl kr (fun cx => ?_)
 refine aT ⟨113,0,[sB 87 (r18 == r19),sB 86 (r18 == r19),sB 85 (r18 == r19),sB 84 r19,sB 81 r18,sI 83 r4.2,sR 82 5 2 0 2 true,sI 80 r4.2,sR 79 5 2 0 2 true,sB 78 true,sB 77 true,sB 76 (decide (r2 ≤ 6)),sB 75 (decide (r2 ≤ 6)),sI 74 r2,sB 73 true,sB 70 r11,sB 72 true,sI 71 r2,sI 69 r2,sR 68 4 2 0 2 true,sB 19 r10.2,sA 18 18 2 0,sB 17 r9.2,sA 16 16 2 0,sB 12 r7.2,sA 11 11 2 0,sB 10 r6.2,sA 9 9 2 0,sI 6 r4.2,sA 5 5 2 0,sA 4 4 2 0,sI 3 r2],[(18,(Vtab.row r10.1)),(16,(Vtab.row r9.1)),(11,(Vtab.row r7.1)),(9,(Vtab.row r6.1)),(5,(Vtab.row r4.1)),(4,(Vtab.row r3))]⟩ kr ?_
 rw [h10]
 refine mU tOk K6x12 [(20,[]),(21,[]),(22,[]),(23,[]),(24,[])] 21 [⟨[16,32],29,5,82⟩,⟨[13,16,32],29,5,79⟩,⟨[2,13,16,32],29,4,68⟩] [24,23,22,21,20,19,18,17,16,13,15,14,12,11,10,9,8,7,6,5,2,4,3,1,0] rfl kr (fun cx => ?_)
 refine aT ⟨113,0,[sB 92 (r6.2 == r7.2),sB 91 (r6.2 == r7.2),sB 90 (r6.2 == r7.2),sB 89 r7.2,sB 88 r6.2,sB 87 true,sB 86 true,sB 85 true,sB 84 r19,sB 81 r18,sI 83 r4.2,sR 82 5 2 0 2 true,sI 80 r4.2,sR 79 5 2 0 2 true,sB 78 true,sB 77 true,sB 76 (decide (r2 ≤ 6)),sB 75 (decide (r2 ≤ 6)),sI 74 r2,sB 73 true,sB 70 r11,sB 72 true,sI 71 r2,sI 69 r2,sR 68 4 2 0 2 true,sB 19 r10.2,sA 18 18 2 0,sB 17 r9.2,sA 16 16 2 0,sB 12 r7.2,sA 11 11 2 0,sB 10 r6.2,sA 9 9 2 0,sI 6 r4.2,sA 5 5 2 0,sA 4 4 2 0,sI 3 r2],[(18,(Vtab.row r10.1)),(16,(Vtab.row r9.1)),(11,(Vtab.row r7.1)),(9,(Vtab.row r6.1)),(5,(Vtab.row r4.1)),(4,(Vtab.row r3))]⟩ kr ?_
 rw [h11]
 refine aT ⟨113,0,[sB 92 true,sB 91 true,sB 90 true,sB 89 r7.2,sB 88 r6.2,sB 87 true,sB 86 true,sB 85 true,sB 84 r19,sB 81 r18,sI 83 r4.2,sR 82 5 2 0 2 true,sI 80 r4.2,sR 79 5 2 0 2 true,sB 78 true,sB 77 true,sB 76 (decide (r2 ≤ 6)),sB 75 (decide (r2 ≤ 6)),sI 74 r2,sB 73 true,sB 70 r11,sB 72 true,sI 71 r2,sI 69 r2,sR 68 4 2 0 2 true,sB 19 r10.2,sA 18 18 2 0,sB 17 r9.2,sA 16 16 2 0,sB 12 r7.2,sA 11 11 2 0,sB 10 r6.2,sA 9 9 2 0,sI 6 r4.2,sA 5 5 2 0,sA 4 4 2 0,sI 3 r2],[(18,(Vtab.row r10.1)),(16,(Vtab.row r9.1)),(11,(Vtab.row r7.1)),(9,(Vtab.row r6.1)),(5,(Vtab.row r4.1)),(4,(Vtab.row r3))]⟩ kr ?_
 exact laws_FnNetworksBent_D19 n r9 r10 r7 r6 r19 r18 r4 r2 r11 r3 r20 h12 er20 h13 cx
theorem laws_FnNetworksBent_D21 (n : Nat) (r9 : Vtab × Bool) (r10 : Vtab × Bool) (r7 : Vtab × Bool) (r6 : Vtab × Bool) (r19 : Bool) (r18 : Bool) (r4 : Vtab × Int) (r2 : Int) (r11 : Bool) (r3 : Vtab) (r20 : Bool) (r21 : Bool) (h12 : (r9.2 == r10.2) = true) (er20 : (laws_sameVtabF n r6.1 r7.1) = some r20) (h13 : r20 = true) (er21 : (laws_sameVtabF n r9.1 r10.1) = some r21) (h14 : r21 = false) (cx : Cx) : AT Try.prog cx (rg Try.f6 12) [⟨[16,32,37],29,5,82⟩,⟨[13,16,32,37],29,5,79⟩,⟨[2,13,16,32,37],29,4,68⟩] 21 [24,23,22,21,20,19,18,17,16,13,15,14,12,11,10,9,8,7,6,5,2,4,3,1,0] ⟨113,0,[sB 92 true,sB 91 true,sB 90 true,sB 89 r7.2,sB 88 r6.2,sB 87 true,sB 86 true,sB 85 true,sB 84 r19,sB 81 r18,sI 83 r4.2,sR 82 5 2 0 2 true,sI 80 r4.2,sR 79 5 2 0 2 true,sB 78 true,sB 77 true,sB 76 (decide (r2 ≤ 6)),sB 75 (decide (r2 ≤ 6)),sI 74 r2,sB 73 true,sB 70 r11,sB 72 true,sI 71 r2,sI 69 r2,sR 68 4 2 0 2 true,sB 19 r10.2,sA 18 18 2 0,sB 17 r9.2,sA 16 16 2 0,sB 12 r7.2,sA 11 11 2 0,sB 10 r6.2,sA 9 9 2 0,sI 6 r4.2,sA 5 5 2 0,sA 4 4 2 0,sI 3 r2],[(18,(Vtab.row r10.1)),(16,(Vtab.row r9.1)),(11,(Vtab.row r7.1)),(9,(Vtab.row r6.1)),(5,(Vtab.row r4.1)),(4,(Vtab.row r3))]⟩ (fun s => s = ⟨113,0,[sB 2 false],[]⟩) := by
 refine mU tOk K6x12 [(25,[]),(26,[]),(27,[]),(28,[]),(29,[])] 16 [⟨[16,32,37],29,5,82⟩,⟨[13,16,32,37],29,5,79⟩,⟨[2,13,16,32,37],29,4,68⟩] [29,28,27,26,25,24,23,22,21,20,19,18,17,16,13,15,14,12,11,10,9,8,7,6,5,2,4,3,1,0] rfl kr (fun cx => ?_)
 refine aT ⟨113,0,[sB 97 (r9.2 == r10.2),sB 96 (r9.2 == r10.2),sB 95 (r9.2 == r10.2),sB 94 r10.2,sB 93 r9.2,sB 92 true,sB 91 true,sB 90 true,sB 89 r7.2,sB 88 r6.2,sB 87 true,sB 86 true,sB 85 true,sB 84 r19,sB 81 r18,sI 83 r4.2,sR 82 5 2 0 2 true,sI 80 r4.2,sR 79 5 2 0 2 true,sB 78 true,sB 77 true,sB 76 (decide (r2 ≤ 6)),sB 75 (decide (r2 ≤ 6)),sI 74 r2,sB 73 true,sB 70 r11,sB 72 true,sI 71 r2,sI 69 r2,sR 68 4 2 0 2 true,sB 19 r10.2,sA 18 18 2 0,sB 17 r9.2,sA 16 16 2 0,sB 12 r7.2,sA 11 11 2 0,sB 10 r6.2,sA 9 9 2 0,sI 6 r4.2,sA 5 5 2 0,sA 4 4 2 0,sI 3 r2],[(18,(Vtab.row r10.1)),(16,(Vtab.row r9.1)),(11,(Vtab.row r7.1)),(9,(Vtab.row r6.1)),(5,(Vtab.row r4.1)),(4,(Vtab.row r3))]⟩ kr ?_
 rw [h12]
 refine mU tOk K6x12 [(30,[32,37]),(31,[32,37])] 14 [⟨[32,37],29,11,99⟩,⟨[32,37],29,9,98⟩,⟨[16,32,37],29,5,82⟩,⟨[13,16,32,37],29,5,79⟩,⟨[2,13,16,32,37],29,4,68⟩] [31,30,29,28,27,26,25,24,23,22,21,20,19,18,17,16,13,15,14,12,11,10,9,8,7,6,5,2,4,3,1,0] rfl kr (fun cx => ?_)
 refine mB1 tOk K6x12 32 kr kr ?_
 refine lV tOk [.rd,.rd] [.box 9,.box 11] (laws_sameVtab n r6.1 r7.1 r20 er20) kr kr kr kr (.inr (rets_cons (mine_cons mine_lit mine_nil) rets_nil)) ?_
 refine lF kr kr kr ?_
 refine mU tOk K6x12 [(33,[]),(34,[])] 11 [⟨[32,37],29,11,99⟩,⟨[32,37],29,9,98⟩,⟨[16,32,37],29,5,82⟩,⟨[13,16,32,37],29,5,79⟩,⟨[2,13,16,32,37],29,4,68⟩] [34,33,32,31,30,29,28,27,26,25,24,23,22,21,20,19,18,17,16,13,15,14,12,11,10,9,8,7,6,5,2,4,3,1,0] rfl kr (fun cx => ?_)
 refine aT ⟨113,0,[sB 102 r20,sB 101 r20,sB 100 r20,sR 99 11 2 0 2 true,sR 98 9 2 0 2 true,sB 97 true,sB 96 true,sB 95 true,sB 94 r10.2,sB 93 r9.2,sB 92 true,sB 91 true,sB 90 true,sB 89 r7.2,sB 88 r6.2,sB 87 true,sB 86 true,sB 85 true,sB 84 r19,sB 81 r18,sI 83 r4.2,sR 82 5 2 0 2 true,sI 80 r4.2,sR 79 5 2 0 2 true,sB 78 true,sB 77 true,sB 76 (decide (r2 ≤ 6)),sB 75 (decide (r2 ≤ 6)),sI 74 r2,sB 73 true,sB 70 r11,sB 72 true,sI 71 r2,sI 69 r2,sR 68 4 2 0 2 true,sB 19 r10.2,sA 18 18 2 0,sB 17 r9.2,sA 16 16 2 0,sB 12 r7.2,sA 11 11 2 0,sB 10 r6.2,sA 9 9 2 0,sI 6 r4.2,sA 5 5 2 0,sA 4 4 2 0,sI 3 r2],[(18,(Vtab.row r10.1)),(16,(Vtab.row r9.1)),(11,(Vtab.row r7.1)),(9,(Vtab.row r6.1)),(5,(Vtab.row r4.1)),(4,(Vtab.row r3))]⟩ kr ?_
 rw [h13]
 refine mU tOk K6x12 [(35,[37]),(36,[37])] 9 [⟨[37],29,18,104⟩,⟨[37],29,16,103⟩,⟨[32,37],29,11,99⟩,⟨[32,37],29,9,98⟩,⟨[16,32,37],29,5,82⟩,⟨[13,16,32,37],29,5,79⟩,⟨[2,13,16,32,37],29,4,68⟩] [36,35,34,33,32,31,30,29,28,27,26,25,24,23,22,21,20,19,18,17,16,13,15,14,12,11,10,9,8,7,6,5,2,4,3,1,0] rfl kr (fun cx => ?_)
 refine mB1 tOk K6x12 37 kr kr ?_
 refine lV tOk [.rd,.rd] [.box 16,.box 18] (laws_sameVtab n r9.1 r10.1 r21 er21) kr kr kr kr (.inr (rets_cons (mine_cons mine_lit mine_nil) rets_nil)) ?_
 refine lF kr kr kr ?_
 refine mU tOk K6x12 [(38,[]),(39,[])] 6 [⟨[37],29,18,104⟩,⟨[37],29,16,103⟩,⟨[32,37],29,11,99⟩,⟨[32,37],29,9,98⟩,⟨[16,32,37],29,5,82⟩,⟨[13,16,32,37],29,5,79⟩,⟨[2,13,16,32,37],29,4,68⟩] [39,38,37,36,35,34,33,32,31,30,29,28,27,26,25,24,23,22,21,20,19,18,17,16,13,15,14,12,11,10,9,8,7,6,5,2,4,3,1,0] rfl kr (fun cx => ?_)
 refine aT ⟨113,0,[sB 107 r21,sB 106 r21,sB 105 r21,sR 104 18 2 0 2 true,sR 103 16 2 0 2 true,sB 102 true,sB 101 true,sB 100 true,sR 99 11 2 0 2 true,sR 98 9 2 0 2 true,sB 97 true,sB 96 true,sB 95 true,sB 94 r10.2,sB 93 r9.2,sB 92 true,sB 91 true,sB 90 true,sB 89 r7.2,sB 88 r6.2,sB 87 true,sB 86 true,sB 85 true,sB 84 r19,sB 81 r18,sI 83 r4.2,sR 82 5 2 0 2 true,sI 80 r4.2,sR 79 5 2 0 2 true,sB 78 true,sB 77 true,sB 76 (decide (r2 ≤ 6)),sB 75 (decide (r2 ≤ 6)),sI 74 r2,sB 73 true,sB 70 r11,sB 72 true,sI 71 r2,sI 69 r2,sR 68 4 2 0 2 true,sB 19 r10.2,sA 18 18 2 0,sB 17 r9.2,sA 16 16 2 0,sB 12 r7.2,sA 11 11 2 0,sB 10 r6.2,sA 9 9 2 0,sI 6 r4.2,sA 5 5 2 0,sA 4 4 2 0,sI 3 r2],[(18,(Vtab.row r10.1)),(16,(Vtab.row r9.1)),(11,(Vtab.row r7.1)),(9,(Vtab.row r6.1)),(5,(Vtab.row r4.1)),(4,(Vtab.row r3))]⟩ kr ?_
 rw [h14]
 refine mU tOk K6x12 [(40,[]),(41,[]),(42,[]),(43,[]),(44,[]),(45,[])] 0 [⟨[37],29,18,104⟩,⟨[37],29,16,103⟩,⟨[32,37],29,11,99⟩,⟨[32,37],29,9,98⟩,⟨[16,32,37],29,5,82⟩,⟨[13,16,32,37],29,5,79⟩,⟨[2,13,16,32,37],29,4,68⟩] [45,44,43,42,41,40,39,38,37,36,35,34,33,32,31,30,29,28,27,26,25,24,23,22,21,20,19,18,17,16,13,15,14,12,11,10,9,8,7,6,5,2,4,3,1,0] rfl kr (fun cx => ?_)
 exact mD K6x12 [2] [] _ kr kr rfl
theorem laws_FnNetworksBent_D22 (n : Nat) (r3 : Vtab) (r2 : Int) (r11 : Bool) (r10 : Vtab × Bool) (r9 : Vtab × Bool) (r7 : Vtab × Bool) (r6 : Vtab × Bool) (r4 : Vtab × Int) (r18 : Bool) (r19 : Bool) (r20 : Bool) (r21 : Bool) (er11 : (impl_VtabOkF n r3 r2) = some r11) (h2 : (decide (r2 ≥ 1)) = true) (h9 : (r11 == (decide (r2 ≤ 6))) = true) (er18 : (impl_VtabOkF n r4.1 r4.2) = some r18) (er19 : (spec_VtabOkF n r4.1 r4.2) = some r19) (h10 : (r18 == r19) = true) (h11 : (r6.2 == r7.2) = true) (h12 : (r9.2 == r10.2) = true) (er20 : (laws_sameVtabF n r6.1 r7.1) = some r20) (h13 : r20 = true) (er21 : (laws_sameVtabF n r9.1 r10.1) = some r21) (h14 : r21 = false) (cx : Cx) : AT Try.prog cx (rg Try.f6 12) [] 46 [] ⟨113,0,[sB 19 r10.2,sA 18 18 2 0,sB 17 r9.2,sA 16 16 2 0,sB 12 r7.2,sA 11 11 2 0,sB 10 r6.2,sA 9 9 2 0,sI 6 r4.2,sA 5 5 2 0,sA 4 4 2 0,sI 3 r2],[(18,(Vtab.row r10.1)),(16,(Vtab.row r9.1)),(11,(Vtab.row r7.1)),(9,(Vtab.row r6.1)),(5,(Vtab.row r4.1)),(4,(Vtab.row r3))]⟩ (fun s => s = ⟨113,0,[sB 2 false],[]⟩) := by
 refine mU tOk K6x12 [(0,[2,13,16,32,37]),(1,[]),(3,[]),(4,[])] 42 [⟨[2,13,16,32,37],29,4,68⟩] [4,3,1,0] rfl kr (fun cx => ?_)
 refine mB1 tOk K6x12 2 kr kr ?_
 refine lV tOk [.rd,.rd] [.box 4] (impl_VtabOk n r3 r2 r11 er11) kr kr kr kr (.inr (rets_cons (mine_cons mine_lit mine_nil) rets_nil)) ?_
 refine lF kr kr kr ?_
 refine mU tOk K6x12 [(5,[])] 40 [⟨[2,13,16,32,37],29,4,68⟩] [5,2,4,3,1,0] rfl kr (fun cx => ?_)
 refine aT ⟨113,0,[sB 73 (decide (r2 ≥ 1)),sB 70 r11,sB 72 (decide (r2 ≥ 1)),sI 71 r2,sI 69 r2,sR 68 4 2 0 2 true,sB 19 r10.2,sA 18 18 2 0,sB 17 r9.2,sA 16 16 2 0,sB 12 r7.2,sA 11 11 2 0,sB 10 r6.2,sA 9 9 2 0,sI 6 r4.2,sA 5 5 2 0,sA 4 4 2 0,sI 3 r2],[(18,(Vtab.row r10.1)),(16,(Vtab.row r9.1)),(11,(Vtab.row r7.1)),(9,(Vtab.row r6.1)),(5,(Vtab.row r4.1)),(4,(Vtab.row r3))]⟩ kr ?_
 rw [h2]
 refine mU tOk K6x12 [(6,[]),(7,[]),(8,[]),(9,[]),(10,[])] 35 [⟨[2,13,16,32,37],29,4,68⟩] [10,9,8,7,6,5,2,4,3,1,0] rfl kr (fun cx => ?_)
 refine aT ⟨113,0,[sB 78 (r11 == (decide (r2 ≤ 6))),sB 77 (r11 == (decide (r2 ≤ 6))),sB 76 (decide (r2 ≤ 6)),sB 75 (decide (r2 ≤ 6)),sI 74 r2,sB 73 true,sB 70 r11,sB 72 true,sI 71 r2,sI 69 r2,sR 68 4 2 0 2 true,sB 19 r10.2,sA 18 18 2 0,sB 17 r9.2,sA 16 16 2 0,sB 12 r7.2,sA 11 11 2 0,sB 10 r6.2,sA 9 9 2 0,sI 6 r4.2,sA 5 5 2 0,sA 4 4 2 0,sI 3 r2],[(18,(Vtab.row r10.1)),(16,(Vtab.row r9.1)),(11,(Vtab.row r7.1)),(9,(Vtab.row r6.1)),(5,(Vtab.row r4.1)),(4,(Vtab.row r3))]⟩ kr ?_
 rw [h9]
 refine mU tOk K6x12 [(11,[13,16,32,37]),(12,[]),(14,[16,32,37]),(15,[])] 31 [⟨[16,32,37],29,5,82⟩,⟨[13,16,32,37],29,5,79⟩,⟨[2,13,16,32,37],29,4,68⟩] [15,14,12,11,10,9,8,7,6,5,2,4,3,1,0] rfl kr (fun cx => ?_)
 refine mB1 tOk K6x12 13 kr kr ?_
 refine lV tOk [.rd,.rd] [.box 5] (impl_VtabOk n r4.1 r4.2 r18 er18) kr kr kr kr (.inr (rets_cons (mine_cons mine_lit mine_nil) rets_nil)) ?_
 refine lF kr kr kr ?_
 refine mB1 tOk K6x12 16 kr kr ?_
 refine lV tOk [.rd,.rd] [.box 5] (spec_VtabOk n r4.1 r4.2 r19 er19) kr kr kr kr (.inr (rets_cons (mine_cons mine_lit mine_nil) rets_nil)) ?_
 refine lF kr kr kr ?_
 refine mU tOk K6x12 [(17,[]),(18,[]),(19,[])] 26 [⟨[16,32,37],29,5,82⟩,⟨[13,16,32,37],29,5,79⟩,⟨[2,13,16,32,37],29,4,68⟩] [19,18,17,16,13,15,14,12,11,10,9,8,7,6,5,2,4,3,1,0] rfl kr (fun cx => ?_)
 refine aT ⟨113,0,[sB 87 (r18 == r19),sB 86 (r18 == r19),sB 85 (r18 == r19),sB 84 r19,sB 81 r18,sI 83 r4.2,sR 82 5 2 0 2 true,sI 80 r4.2,sR 79 5 2 0 2 true,sB 78 true,sB 77 true,sB 76 (decide (r2 ≤ 6)),sB 75 (decide (r2 ≤ 6)),sI 74 r2,sB 73 true,sB 70 r11,sB 72 true,sI 71 r2,sI 69 r2,sR 68 4 2 0 2 true,sB 19 r10.2,sA 18 18 2 0,sB 17 r9.2,sA 16 16 2 0,sB 12 r7.2,sA 11 11 2 0,sB 10 r6.2,sA 9 9 2 0,sI 6 r4.2,sA 5 5 2 0,sA 4 4 2 0,sI 3 r2],[(18,(Vtab.row r10.1)),(16,(Vtab.row r9.1)),(11,(Vtab.row r7.1)),(9,(Vtab.row r6.1)),(5,(Vtab.row r4.1)),(4,(Vtab.row r3))]⟩ kr ?_
 rw [h10]
 refine mU tOk K6x12 [(20,[]),(21,[]),(22,[]),(23,[]),(24,[])] 21 [⟨[16,32,37],29,5,82⟩,⟨[13,16,32,37],29,5,79⟩,⟨[2,13,16,32,37],29,4,68⟩] [24,23,22,21,20,19,18,17,16,13,15,14,12,11,10,9,8,7,6,5,2,4,3,1,0] rfl kr (fun cx => ?_)
 refine aT ⟨113,0,[sB 92 (r6.2 == r7.2),sB 91 (r6.2 == r7.2),sB 90 (r6.2 == r7.2),sB 89 r7.2,sB 88 r6.2,sB 87 true,sB 86 true,sB 85 true,sB 84 r19,sB 81 r18,sI 83 r4.2,sR 82 5 2 0 2 true,sI 80 r4.2,sR 79 5 2 0 2 true,sB 78 true,sB 77 true,sB 76 (decide (r2 ≤ 6)),sB 75 (decide (r2 ≤ 6)),sI 74 r2,sB 73 true,sB 70 r11,sB 72 true,sI 71 r2,sI 69 r2,sR 68 4 2 0 2 true,sB 19 r10.2,sA 18 18 2 0,sB 17 r9.2,sA 16 16 2 0,sB 12 r7.2,sA 11 11 2 0,sB 10 r6.2,sA 9 9 2 0,sI 6 r4.2,sA 5 5 2 0,sA 4 4 2 0,sI 3 r2],[(18,(Vtab.row r10.1)),(16,(Vtab.row r9.1)),(11,(Vtab.row r7.1)),(9,(Vtab.row r6.1)),(5,(Vtab.row r4.1)),(4,(Vtab.row r3))]⟩ kr ?_
 rw [h11]
 refine aT ⟨113,0,[sB 92 true,sB 91 true,sB 90 true,sB 89 r7.2,sB 88 r6.2,sB 87 true,sB 86 true,sB 85 true,sB 84 r19,sB 81 r18,sI 83 r4.2,sR 82 5 2 0 2 true,sI 80 r4.2,sR 79 5 2 0 2 true,sB 78 true,sB 77 true,sB 76 (decide (r2 ≤ 6)),sB 75 (decide (r2 ≤ 6)),sI 74 r2,sB 73 true,sB 70 r11,sB 72 true,sI 71 r2,sI 69 r2,sR 68 4 2 0 2 true,sB 19 r10.2,sA 18 18 2 0,sB 17 r9.2,sA 16 16 2 0,sB 12 r7.2,sA 11 11 2 0,sB 10 r6.2,sA 9 9 2 0,sI 6 r4.2,sA 5 5 2 0,sA 4 4 2 0,sI 3 r2],[(18,(Vtab.row r10.1)),(16,(Vtab.row r9.1)),(11,(Vtab.row r7.1)),(9,(Vtab.row r6.1)),(5,(Vtab.row r4.1)),(4,(Vtab.row r3))]⟩ kr ?_
 exact laws_FnNetworksBent_D21 n r9 r10 r7 r6 r19 r18 r4 r2 r11 r3 r20 r21 h12 er20 h13 er21 h14 cx
theorem laws_FnNetworksBent_D23 (n : Nat) (r9 : Vtab × Bool) (r10 : Vtab × Bool) (r7 : Vtab × Bool) (r6 : Vtab × Bool) (r19 : Bool) (r18 : Bool) (r4 : Vtab × Int) (r2 : Int) (r11 : Bool) (r3 : Vtab) (r20 : Bool) (r21 : Bool) (r22 : Vtab) (r23 : Bool) (h12 : (r9.2 == r10.2) = true) (er20 : (laws_sameVtabF n r6.1 r7.1) = some r20) (h13 : r20 = true) (er21 : (laws_sameVtabF n r9.1 r10.1) = some r21) (h14 : r21 = true) (er22 : (spec_VtabNewF n r2) = some r22) (er23 : (laws_sameVtabF n r3 r22) = some r23) (cx : Cx) : AT Try.prog cx (rg Try.f6 12) [⟨[16,32,37,42,43],29,5,82⟩,⟨[13,16,32,37,42,43],29,5,79⟩,⟨[2,13,16,32,37,42,43],29,4,68⟩] 21 [24,23,22,21,20,19,18,17,16,13,15,14,12,11,10,9,8,7,6,5,2,4,3,1,0] ⟨113,0,[sB 92 true,sB 91 true,sB 90 true,sB 89 r7.2,sB 88 r6.2,sB 87 true,sB 86 true,sB 85 true,sB 84 r19,sB 81 r18,sI 83 r4.2,sR 82 5 2 0 2 true,sI 80 r4.2,sR 79 5 2 0 2 true,sB 78 true,sB 77 true,sB 76 (decide (r2 ≤ 6)),sB 75 (decide (r2 ≤ 6)),sI 74 r2,sB 73 true,sB 70 r11,sB 72 true,sI 71 r2,sI 69 r2,sR 68 4 2 0 2 true,sB 19 r10.2,sA 18 18 2 0,sB 17 r9.2,sA 16 16 2 0,sB 12 r7.2,sA 11 11 2 0,sB 10 r6.2,sA 9 9 2 0,sI 6 r4.2,sA 5 5 2 0,sA 4 4 2 0,sI 3 r2],[(18,(Vtab.row r10.1)),(16,(Vtab.row r9.1)),(11,(Vtab.row r7.1)),(9,(Vtab.row r6.1)),(5,(Vtab.row r4.1)),(4,(Vtab.row r3))]⟩ (fun s => s = ⟨113,0,[sB 2 r23],[]⟩) := by
 refine mU tOk K6x12 [(25,[]),(26,[]),(27,[]),(28,[]),(29,[])] 16 [⟨[16,32,37,42,43],29,5,82⟩,⟨[13,16,32,37,42,43],29,5,79⟩,⟨[2,13,16,32,37,42,43],29,4,68⟩] [29,28,27,26,25,24,23,22,21,20,19,18,17,16,13,15,14,12,11,10,9,8,7,6,5,2,4,3,1,0] rfl kr (fun cx => ?_)
 refine aT ⟨113,0,[sB 97 (r9.2 == r10.2),sB 96 (r9.2 == r10.2),sB 95 (r9.2 == r10.2),sB 94 r10.2,sB 93 r9.2,sB 92 true,sB 91 true,sB 90 true,sB 89 r7.2,sB 88 r6.2,sB 87 true,sB 86 true,sB 85 true,sB 84 r19,sB 81 r18,sI 83 r4.2,sR 82 5 2 0 2 true,sI 80 r4.2,sR 79 5 2 0 2 true,sB 78 true,sB 77 true,sB 76 (decide (r2 ≤ 6)),sB 75 (decide (r2 ≤ 6)),sI 74 r2,sB 73 true,sB 70 r11,sB 72 true,sI 71 r2,sI 69 r2,sR 68 4 2 0 2 true,sB 19 r10.2,sA 18 18 2 0,sB 17 r9.2,sA 16 16 2 0,sB 12 r7.2,sA 11 11 2 0,sB 10 r6.2,sA 9 9 2 0,sI 6 r4.2,sA 5 5 2 0,sA 4 4 2 0,sI 3 r2],[(18,(Vtab.row r10.1)),(16,(Vtab.row r9.1)),(11,(Vtab.row r7.1)),(9,(Vtab.row r6.1)),(5,(Vtab.row r4.1)),(4,(Vtab.row r3))]⟩ kr ?_
 rw [h12]
 refine mU tOk K6x12 [(30,[32,37,42,43]),(31,[32,37,42,43])] 14 [⟨[32,37,42,43],29,11,99⟩,⟨[32,37,42,43],29,9,98⟩,⟨[16,32,37,42,43],29,5,82⟩,⟨[13,16,32,37,42,43],29,5,79⟩,⟨[2,13,16,32,37,42,43],29,4,68⟩] [31,30,29,28,27,26,25,24,23,22,21,20,19,18,17,16,13,15,14,12,11,10,9,8,7,6,5,2,4,3,1,0] rfl kr (fun cx => ?_)
 refine mB1 tOk K6x12 32 kr kr ?_
 refine lV tOk [.rd,.rd] [.box 9,.box 11] (laws_sameVtab n r6.1 r7.1 r20 er20) kr kr kr kr (.inr (rets_cons (mine_cons mine_lit mine_nil) rets_nil)) ?_
 refine lF kr kr kr ?_
 refine mU tOk K6x12 [(33,[]),(34,[])] 11 [⟨[32,37,42,43],29,11,99⟩,⟨[32,37,42,43],29,9,98⟩,⟨[16,32,37,42,43],29,5,82⟩,⟨[13,16,32,37,42,43],29,5,79⟩,⟨[2,13,16,32,37,42,43],29,4,68⟩] [34,33,32,31,30,29,28,27,26,25,24,23,22,21,20,19,18,17,16,13,15,14,12,11,10,9,8,7,6,5,2,4,3,1,0] rfl kr (fun cx => ?_)
 refine aT ⟨113,0,[sB 102 r20,sB 101 r20,sB 100 r20,sR 99 11 2 0 2 true,sR 98 9 2 0 2 true,sB 97 true,sB 96 true,sB 95 true,sB 94 r10.2,sB 93 r9.2,sB 92 true,sB 91 true,sB 90 true,sB 89 r7.2,sB 88 r6.2,sB 87 true,sB 86 true,sB 85 true,sB 84 r19,sB 81 r18,sI 83 r4.2,sR 82 5 2 0 2 true,sI 80 r4.2,sR 79 5 2 0 2 true,sB 78 true,sB 77 true,sB 76 (decide (r2 ≤ 6)),sB 75 (decide (r2 ≤ 6)),sI 74 r2,sB 73 true,sB 70 r11,sB 72 true,sI 71 r2,sI 69 r2,sR 68 4 2 0 2 true,sB 19 r10.2,sA 18 18 2 0,sB 17 r9.2,sA 16 16 2 0,sB 12 r7.2,sA 11 11 2 0,sB 10 r6.2,sA 9 9 2 0,sI 6 r4.2,sA 5 5 2 0,sA 4 4 2 0,sI 3 r2],[(18,(Vtab.row r10.1)),(16,(Vtab.row r9.1)),(11,(Vtab.row r7.1)),(9,(Vtab.row r6.1)),(5,(Vtab.row r4.1)),(4,(Vtab.row r3))]⟩ kr ?_
 rw [h13]
 refine mU tOk K6x12 [(35,[37,42,43]),(36,[37,42,43])] 9 [⟨[37,42,43],29,18,104⟩,⟨[37,42,43],29,16,103⟩,⟨[32,37,42,43],29,11,99⟩,⟨[32,37,42,43],29,9,98⟩,⟨[16,32,37,42,43],29,5,82⟩,⟨[13,16,32,37,42,43],29,5,79⟩,⟨[2,13,16,32,37,42,43],29,4,68⟩] [36,35,34,33,32,31,30,29,28,27,26,25,24,23,22,21,20,19,18,17,16,13,15,14,12,11,10,9,8,7,6,5,2,4,3,1,0] rfl kr (fun cx => ?_)
 refine mB1 tOk K6x12 37 kr kr ?_
 refine lV tOk [.rd,.rd] [.box 16,.box 18] (laws_sameVtab n r9.1 r10.1 r21 er21) kr kr kr kr (.inr (rets_cons (mine_cons mine_lit mine_nil) rets_nil)) ?_
 refine lF kr kr kr ?_
 refine mU tOk K6x12 [(38,[]),(39,[])] 6 [⟨[37,42,43],29,18,104⟩,⟨[37,42,43],29,16,103⟩,⟨[32,37,42,43],29,11,99⟩,⟨[32,37,42,43],29,9,98⟩,⟨[16,32,37,42,43],29,5,82⟩,⟨[13,16,32,37,42,43],29,5,79⟩,⟨[2,13,16,32,37,42,43],29,4,68⟩] [39,38,37,36,35,34,33,32,31,30,29,28,27,26,25,24,23,22,21,20,19,18,17,16,13,15,14,12,11,10,9,8,7,6,5,2,4,3,1,0] rfl kr (fun cx => ?_)
 refine aT ⟨113,0,[sB 107 r21,sB 106 r21,sB 105 r21,sR 104 18 2 0 2 true,sR 103 16 2 0 2 true,sB 102 true,sB 101 true,sB 100 true,sR 99 11 2 0 2 true,sR 98 9 2 0 2 true,sB 97 true,sB 96 true,sB 95 true,sB 94 r10.2,sB 93 r9.2,sB 92 true,sB 91 true,sB 90 true,sB 89 r7.2,sB 88 r6.2,sB 87 true,sB 86 true,sB 85 true,sB 84 r19,sB 81 r18,sI 83 r4.2,sR 82 5 2 0 2 true,sI 80 r4.2,sR 79 5 2 0 2 true,sB 78 true,sB 77 true,sB 76 (decide (r2 ≤ 6)),sB 75 (decide (r2 ≤ 6)),sI 74 r2,sB 73 true,sB 70 r11,sB 72 true,sI 71 r2,sI 69 r2,sR 68 4 2 0 2 true,sB 19 r10.2,sA 18 18 2 0,sB 17 r9.2,sA 16 16 2 0,sB 12 r7.2,sA 11 11 2 0,sB 10 r6.2,sA 9 9 2 0,sI 6 r4.2,sA 5 5 2 0,sA 4 4 2 0,sI 3 r2],[(18,(Vtab.row r10.1)),(16,(Vtab.row r9.1)),(11,(Vtab.row r7.1)),(9,(Vtab.row r6.1)),(5,(Vtab.row r4.1)),(4,(Vtab.row r3))]⟩ kr ?_
 rw [h14]
 refine mU tOk K6x12 [(40,[43]),(41,[])] 4 [⟨[43],29,4,108⟩,⟨[37,42,43],29,18,104⟩,⟨[37,42,43],29,16,103⟩,⟨[32,37,42,43],29,11,99⟩,⟨[32,37,42,43],29,9,98⟩,⟨[16,32,37,42,43],29,5,82⟩,⟨[13,16,32,37,42,43],29,5,79⟩,⟨[2,13,16,32,37,42,43],29,4,68⟩] [41,40,39,38,37,36,35,34,33,32,31,30,29,28,27,26,25,24,23,22,21,20,19,18,17,16,13,15,14,12,11,10,9,8,7,6,5,2,4,3,1,0] rfl kr (fun cx => ?_)
 refine mB1 tOk K6x12 42 kr kr ?_
 refine lV tOk [.rd] [] (spec_VtabNew n r2 r22 er22) kr kr kr kr (.inl rfl) ?_
 refine lF kr kr kr ?_
 refine mB1 tOk K6x12 43 kr kr ?_
 refine lV tOk [.rd,.rd] [.box 4] (laws_sameVtab n r3 r22 r23 er23) kr kr kr kr (.inr (rets_cons (mine_cons mine_lit mine_nil) rets_nil)) ?_
 refine lF kr kr kr ?_
 refine mU tOk K6x12 [(44,[]),(45,[])] 0 [⟨[43],29,4,108⟩,⟨[37,42,43],29,18,104⟩,⟨[37,42,43],29,16,103⟩,⟨[32,37,42,43],29,11,99⟩,⟨[32,37,42,43],29,9,98⟩,⟨[16,32,37,42,43],29,5,82⟩,⟨[13,16,32,37,42,43],29,5,79⟩,⟨[2,13,16,32,37,42,43],29,4,68⟩] [45,44,43,42,41,40,39,38,37,36,35,34,33,32,31,30,29,28,27,26,25,24,23,22,21,20,19,18,17,16,13,15,14,12,11,10,9,8,7,6,5,2,4,3,1,0] rfl kr (fun cx => ?_)
 exact mD K6x12 [2] [] _ kr kr rfl
theorem laws_FnNetworksBent_D24 (n : Nat) (r3 : Vtab) (r2 : Int) (r11 : Bool) (r10 : Vtab × Bool) (r9 : Vtab × Bool) (r7 : Vtab × Bool) (r6 : Vtab × Bool) (r4 : Vtab × Int) (r18 : Bool) (r19 : Bool) (r20 : Bool) (r21 : Bool) (r22 : Vtab) (r23 : Bool) (er11 : (impl_VtabOkF n r3 r2) = some r11) (h2 : (decide (r2 ≥ 1)) = true) (h9 : (r11 == (decide (r2 ≤ 6))) = true) (er18 : (impl_VtabOkF n r4.1 r4.2) = some r18) (er19 : (spec_VtabOkF n r4.1 r4.2) = some r19) (h10 : (r18 == r19) = true) (h11 : (r6.2 == r7.2) = true) (h12 : (r9.2 == r10.2) = true) (er20 : (laws_sameVtabF n r6.1 r7.1) = some r20) (h13 : r20 = true) (er21 : (laws_sameVtabF n r9.1 r10.1) = some r21) (h14 : r21 = true) (er22 : (spec_VtabNewF n r2) = some r22) (er23 : (laws_sameVtabF n r3 r22) = some r23) (cx : Cx) : AT Try.prog cx (rg Try.f6 12) [] 46 [] ⟨113,0,[sB 19 r10.2,sA 18 18 2 0,sB 17 r9.2,sA 16 16 2 0,sB 12 r7.2,sA 11 11 2 0,sB 10 r6.2,sA 9 9 2 0,sI 6 r4.2,sA 5 5 2 0,sA 4 4 2 0,sI 3 r2],[(18,(Vtab.row r10.1)),(16,(Vtab.row r9.1)),(11,(Vtab.row r7.1)),(9,(Vtab.row r6.1)),(5,(Vtab.row r4.1)),(4,(Vtab.row r3))]⟩ (fun s => s = ⟨113,0,[sB 2 r23],[]⟩) := by
 refine mU tOk K6x12 [(0,[2,13,16,32,37,42,43]),(1,[]),(3,[]),(4,[])] 42 [⟨[2,13,16,32,37,42,43],29,4,68⟩] [4,3,1,0] rfl kr (fun cx => ?_)
 refine mB1 tOk K6x12 2 kr kr ?_
 refine lV tOk [.rd,.rd] [.box 4] (impl_VtabOk n r3 r2 r11 er11) kr kr kr kr (.inr (rets_cons (mine_cons mine_lit mine_nil) rets_nil)) ?_
 refine lF kr kr kr ?_
 refine mU tOk K6x12 [(5,[])] 40 [⟨[2,13,16,32,37,42,43],29,4,68⟩] [5,2,4,3,1,0] rfl kr (fun cx => ?_)
 refine aT ⟨113,0,[sB 73 (decide (r2 ≥ 1)),sB 70 r11,sB 72 (decide (r2 ≥ 1)),sI 71 r2,sI 69 r2,sR 68 4 2 0 2 true,sB 19 r10.2,sA 18 18 2 0,sB 17 r9.2,sA 16 16 2 0,sB 12 r7.2,sA 11 11 2 0,sB 10 r6.2,sA 9 9 2 0,sI 6 r4.2,sA 5 5 2 0,sA 4 4 2 0,sI 3 r2],[(18,(Vtab.row r10.1)),(16,(Vtab.row r9.1)),(11,(Vtab.row r7.1)),(9,(Vtab.row r6.1)),(5,(Vtab.row r4.1)),(4,(Vtab.row r3))]⟩ kr ?_
 rw [h2]
 refine mU tOk K6x12 [(6,[]),(7,[]),(8,[]),(9,[]),(10,[])] 35 [⟨[2,13,16,32,37,42,43],29,4,68⟩] [10,9,8,7,6,5,2,4,3,1,0] rfl kr (fun cx => ?_)
 refine aT ⟨113,0,[sB 78 (r11 == (decide (r2 ≤ 6))),sB 77 (r11 == (decide (r2 ≤ 6))),sB 76 (decide (r2 ≤ 6)),sB 75 (decide (r2 ≤ 6)),sI 74 r2,sB 73 true,sB 70 r11,sB 72 true,sI 71 r2,sI 69 r2,sR 68 4 2 0 2 true,sB 19 r10.2,sA 18 18 2 0,sB 17 r9.2,sA 16 16 2 0,sB 12 r7.2,sA 11 11 2 0,sB 10 r6.2,sA 9 9 2 0,sI 6 r4.2,sA 5 5 2 0,sA 4 4 2 0,sI 3 r2],[(18,(Vtab.row r10.1)),(16,(Vtab.row r9.1)),(11,(Vtab.row r7.1)),(9,(Vtab.row r6.1)),(5,(Vtab.row r4.1)),(4,(Vtab.row r3))]⟩ kr ?_
 rw [h9]
 refine mU tOk K6x12 [(11,[13,16,32,37,42,43]),(12,[]),(14,[16,32,37,42,43]),(15,[])] 31 [⟨[16,32,37,42,43],29,5,82⟩,⟨[13,16,32,37,42,43],29,5,79⟩,⟨[2,13,16,32,37,42,43],29,4,68⟩] [15,14,12,11,10,9,8,7,6,5,2,4,3,1,0] rfl kr (fun cx => ?_)
 refine mB1 tOk K6x12 13 kr kr ?_
 refine lV tOk [.rd,.rd] [.box 5] (impl_VtabOk n r4.1 r4.2 r18 er18) kr kr kr kr (.inr (rets_cons (mine_cons mine_lit mine_nil) rets_nil)) ?_
 refine lF kr kr kr ?_
 refine mB1 tOk K6x12 16 kr kr ?_
 refine lV tOk [.rd,.rd] [.box 5] (spec_VtabOk n r4.1 r4.2 r19 er19) kr kr kr kr (.inr (rets_cons (mine_cons mine_lit mine_nil) rets_nil)) ?_
 refine lF kr kr kr ?_
 refine mU tOk K6x12 [(17,[]),(18,[]),(19,[])] 26 [⟨[16,32,37,42,43],29,5,82⟩,⟨[13,16,32,37,42,43],29,5,79⟩,⟨[2,13,16,32,37,42,43],29,4,68⟩] [19,18,17,16,13,15,14,12,11,10,9,8,7,6,5,2,4,3,1,0] rfl kr (fun cx => ?_)
 refine aT ⟨113,0,[sB 87 (r18 == r19),sB 86 (r18 == r19),sB 85 (r18 == r19),sB 84 r19,sB 81 r18,sI 83 r4.2,sR 82 5 2 0 2 true,sI 80 r4.2,sR 79 5 2 0 2 true,sB 78 true,sB 77 true,sB 76 (decide (r2 ≤ 6)),sB 75 (decide (r2 ≤ 6)),sI 74 r2,sB 73 true,sB 70 r11,sB 72 true,sI 71 r2,sI 69 r2,sR 68 4 2 0 2 true,sB 19 r10.2,sA 18 18 2 0,sB 17 r9.2,sA 16 16 2 0,sB 12 r7.2,sA 11 11 2 0,sB 10 r6.2,sA 9 9 2 0,sI 6 r4.2,sA 5 5 2 0,sA 4 4 2 0,sI 3 r2],[(18,(Vtab.row r10.1)),(16,(Vtab.row r9.1)),(11,(Vtab.row r7.1)),(9,(Vtab.row r6.1)),(5,(Vtab.row r4.1)),(4,(Vtab.row r3))]⟩ kr ?_
 rw [h10]
 refine mU tOk K6x12 [(20,[]),(21,[]),(22,[]),(23,[]),(24,[])] 21 [⟨[16,32,37,42,43],29,5,82⟩,⟨[13,16,32,37,42,43],29,5,79⟩,⟨[2,13,16,32,37,42,43],29,4,68⟩] [24,23,22,21,20,19,18,17,16,13,15,14,12,11,10,9,8,7,6,5,2,4,3,1,0] rfl kr (fun cx => ?_)
 refine aT ⟨113,0,[sB 92 (r6.2 == r7.2),sB 91 (r6.2 == r7.2),sB 90 (r6.2 == r7.2),sB 89 r7.2,sB 88 r6.2,sB 87 true,sB 86 true,sB 85 true,sB 84 r19,sB 81 r18,sI 83 r4.2,sR 82 5 2 0 2 true,sI 80 r4.2,sR 79 5 2 0 2 true,sB 78 true,sB 77 true,sB 76 (decide (r2 ≤ 6)),sB 75 (decide (r2 ≤ 6)),sI 74 r2,sB 73 true,sB 70 r11,sB 72 true,sI 71 r2,sI 69 r2,sR 68 4 2 0 2 true,sB 19 r10.2,sA 18 18 2 0,sB 17 r9.2,sA 16 16 2 0,sB 12 r7.2,sA 11 11 2 0,sB 10 r6.2,sA 9 9 2 0,sI 6 r4.2,sA 5 5 2 0,sA 4 4 2 0,sI 3 r2],[(18,(Vtab.row r10.1)),(16,(Vtab.row r9.1)),(11,(Vtab.row r7.1)),(9,(Vtab.row r6.1)),(5,(Vtab.row r4.1)),(4,(Vtab.row r3))]⟩ kr ?_
 rw [h11]
 refine aT ⟨113,0,[sB 92 true,sB 91 true,sB 90 true,sB 89 r7.2,sB 88 r6.2,sB 87 true,sB 86 true,sB 85 true,sB 84 r19,sB 81 r18,sI 83 r4.2,sR 82 5 2 0 2 true,sI 80 r4.2,sR 79 5 2 0 2 true,sB 78 true,sB 77 true,sB 76 (decide (r2 ≤ 6)),sB 75 (decide (r2 ≤ 6)),sI 74 r2,sB 73 true,sB 70 r11,sB 72 true,sI 71 r2,sI 69 r2,sR 68 4 2 0 2 true,sB 19 r10.2,sA 18 18 2 0,sB 17 r9.2,sA 16 16 2 0,sB 12 r7.2,sA 11 11 2 0,sB 10 r6.2,sA 9 9 2 0,sI 6 r4.2,sA 5 5 2 0,sA 4 4 2 0,sI 3 r2],[(18,(Vtab.row r10.1)),(16,(Vtab.row r9.1)),(11,(Vtab.row r7.1)),(9,(Vtab.row r6.1)),(5,(Vtab.row r4.1)),(4,(Vtab.row r3))]⟩ kr ?_
 exact laws_FnNetworksBent_D23 n r9 r10 r7 r6 r19 r18 r4 r2 r11 r3 r20 r21 r22 r23 h12 er20 h13 er21 h14 er22 er23 cx
theorem laws_FnNetworksBent (n : Nat) (x0 : (List Int)) (r : Bool) (H : laws_FnNetworksBentF n x0 = some r) : LCall Try.prog 6 [.val false [.sl false 1 (CV.frzEs (x0.map byteRow))]] [.val false [.lit (.bool r)]] [] := by
 refine LCall.of_body tOk Try.func6 rfl (c := (.seq (G6 0) (.seq (.seq (G6 1) (.cond (.tmp 21) (.seq (G6 2) .ret) .skip)) (.seq (G6 3) (.seq (G6 4) (.seq (G6 5) (.seq (G6 6) (.seq (G6 7) (.seq (G6 8) (.seq (G6 9) (.seq (G6 10) (.seq (G6 11) (.seq (D6 12) .ret))))))))))))) kr (Nat.le_of_ble_eq_true kr) 0 (rs := [.tmp 2]) rfl [] .nil [(false,[.lit (.bool r)])] [] [] fun cx => ?_
 show Tr _ _ _ ⟨113,0,[sC 0 (cF 1 x0 byteRow)],[]⟩ _
 unfold laws_FnNetworksBentF at H
 refine tG tOk 1 1 0 kr kr ?_
 refine tS ?_
 refine rU tOk 1 kr ?_
 obtain ⟨r1,er1,H⟩ := bind_some H
 refine lV tOk [.rd] [] (laws_big n x0 r1 er1) kr kr kr kr (.inl rfl) ?_
 refine lD 2097153 0 kr ?_
 cases h1 : r1
 ·have H := bifF h1 H
  refine tf kr ?_
  refine tK ?_
  refine rU tOk 1 kr ?_
  obtain ⟨r2,er2,H⟩ := bind_some H
  refine lV tOk [.rd] [] (spec_DrawVtabNew n x0 r2 er2) kr kr kr kr (.inl rfl) ?_
  refine uD tOk 1 9 0 kr kr ?_
  refine rU tOk 1 kr ?_
  obtain ⟨r3,er3,H⟩ := bind_some H
  refine lV tOk [.rd] [] (impl_VtabNew n r2 r3 er3) kr kr kr kr (.inl rfl) ?_
  refine uD tOk 2 25 16 kr kr ?_
  refine rU tOk 1 kr ?_
  obtain ⟨r4,er4,H⟩ := bind_some H
  refine lV tOk [.rd] [] (spec_DrawVtabOk n x0 r4 er4) kr kr kr kr (.inl rfl) ?_
  refine LAt.movT tOk (ty := 83) (t := 28) (d := 26) (g := none) [(true,(Vtab.row r4.1)),(false,[cI r4.2])] _ kr (.inl rfl) kr kr kr kr rfl ?_
  refine uD tOk 5 121 48 kr kr ?_
  refine rU tOk 1 kr ?_
  obtain ⟨r5,er5,H⟩ := bind_some H
  refine lV tOk [.rd] [] (spec_DrawDropRow n x0 r5 er5) kr kr kr kr (.inl rfl) ?_
  refine LAt.movT tOk (ty := 83) (t := 33) (d := 31) (g := none) [(true,(Vtab.row r5.1)),(false,[cI r5.2])] _ kr (.inl rfl) kr kr kr kr rfl ?_
  refine uD tOk 5 505 176 kr kr ?_
  refine rU tOk 2 kr ?_
  obtain ⟨r6,er6,H⟩ := bind_some H
  refine lV tOk [.rd,.rd] [.box 7] (impl_DropRow n r5.1 r5.2 r6 er6) kr kr kr kr (.inr (rets_cons (Vtab.row_mine _) (rets_cons (mine_cons mine_lit mine_nil) rets_nil))) ?_
  refine LAt.movT tOk (ty := 85) (t := 39) (d := 36) (g := none) [(true,(Vtab.row r6.1)),(false,[cB r6.2])] _ kr (.inl rfl) kr kr kr kr rfl ?_
  refine uD tOk 5 2041 688 kr kr ?_
  refine rU tOk 2 kr ?_
  obtain ⟨r7,er7,H⟩ := bind_some H
  refine lV tOk [.rd,.rd] [.box 7] (spec_DropRow n r5.1 r5.2 r7 er7) kr kr kr kr (.inr (rets_cons (Vtab.row_mine _) (rets_cons (mine_cons mine_lit mine_nil) rets_nil))) ?_
  refine LAt.movT tOk (ty := 85) (t := 45) (d := 42) (g := none) [(true,(Vtab.row r7.1)),(false,[cB r7.2])] _ kr (.inl rfl) kr kr kr kr rfl ?_
  refine uD tOk 5 7801 2608 kr kr ?_
  refine rU tOk 1 kr ?_
  obtain ⟨r8,er8,H⟩ := bind_some H
  refine lV tOk [.rd] [] (spec_DrawSetPvid n x0 r8 er8) kr kr kr kr (.inl rfl) ?_
  refine LAt.movT tOk (ty := 87) (t := 50) (d := 48) (g := none) [(true,(Vtab.row r8.1)),(false,[cI r8.2.1]),(false,[cI r8.2.2])] _ kr (.inl rfl) kr kr kr kr rfl ?_
  refine uD tOk 7 65144 10800 kr kr ?_
  refine rU tOk 3 kr ?_
  obtain ⟨r9,er9,H⟩ := bind_some H
  refine lV tOk [.rd,.rd,.rd] [.box 13] (impl_SetPvid n r8.1 r8.2.1 r8.2.2 r9 er9) kr kr kr kr (.inr (rets_cons (Vtab.row_mine _) (rets_cons (mine_cons mine_lit mine_nil) rets_nil))) ?_
  refine LAt.movT tOk (ty := 85) (t := 58) (d := 54) (g := none) [(true,(Vtab.row r9.1)),(false,[cB r9.2])] _ kr (.inl rfl) kr kr kr kr rfl ?_
  refine uD tOk 5 261752 76336 kr kr ?_
  refine rU tOk 3 kr ?_
  obtain ⟨r10,er10,H⟩ := bind_some H
  refine lV tOk [.rd,.rd,.rd] [.box 13] (spec_SetPvid n r8.1 r8.2.1 r8.2.2 r10 er10) kr kr kr kr (.inr (rets_cons (Vtab.row_mine _) (rets_cons (mine_cons mine_lit mine_nil) rets_nil))) ?_
  refine LAt.movT tOk (ty := 85) (t := 65) (d := 61) (g := none) [(true,(Vtab.row r10.1)),(false,[cB r10.2])] _ kr (.inl rfl) kr kr kr kr rfl ?_
  refine uD tOk 5 990840 330288 kr kr ?_
  obtain ⟨r11,er11,H⟩ := bind_some H
  refine tO ⟨113,0,[sB 19 r10.2,sA 18 18 2 0,sB 17 r9.2,sA 16 16 2 0,sB 12 r7.2,sA 11 11 2 0,sB 10 r6.2,sA 9 9 2 0,sI 6 r4.2,sA 5 5 2 0,sA 4 4 2 0,sI 3 r2],[(18,(Vtab.row r10.1)),(16,(Vtab.row r9.1)),(11,(Vtab.row r7.1)),(9,(Vtab.row r6.1)),(5,(Vtab.row r4.1)),(4,(Vtab.row r3))]⟩ kr ?_
  cases h2 : (decide (r2 ≥ 1))
  ·have H := bifF h2 H
   refine tO ⟨113,0,[sB 19 r10.2,sA 18 18 2 0,sB 17 r9.2,sA 16 16 2 0,sB 12 r7.2,sA 11 11 2 0,sB 10 r6.2,sA 9 9 2 0,sI 6 r4.2,sA 5 5 2 0,sA 4 4 2 0,sI 3 r2],[(18,(Vtab.row r10.1)),(16,(Vtab.row r9.1)),(11,(Vtab.row r7.1)),(9,(Vtab.row r6.1)),(5,(Vtab.row r4.1)),(4,(Vtab.row r3))]⟩ kr ?_
   cases h3 : (r11 == false)
   ·have H := bifF h3 H
    refine tO ⟨113,0,[sB 19 r10.2,sA 18 18 2 0,sB 17 r9.2,sA 16 16 2 0,sB 12 r7.2,sA 11 11 2 0,sB 10 r6.2,sA 9 9 2 0,sI 6 r4.2,sA 5 5 2 0,sA 4 4 2 0,sI 3 r2],[(18,(Vtab.row r10.1)),(16,(Vtab.row r9.1)),(11,(Vtab.row r7.1)),(9,(Vtab.row r6.1)),(5,(Vtab.row r4.1)),(4,(Vtab.row r3))]⟩ kr ?_
    refine Tr.draws mixed 46 kr ⟨113,0,[sB 2 false],[]⟩ (laws_FnNetworksBent_D1 n r3 r2 r11 r10 r9 r7 r6 r4 er11 h2 h3) ?_
    exact te (by obtain rfl := si H; exact fO [(false,[cB false])] kr rfl rfl)
   have H := bifT h3 H
   obtain ⟨r12,er12,H⟩ := bind_some H
   obtain ⟨r13,er13,H⟩ := bind_some H
   refine tO ⟨113,0,[sB 19 r10.2,sA 18 18 2 0,sB 17 r9.2,sA 16 16 2 0,sB 12 r7.2,sA 11 11 2 0,sB 10 r6.2,sA 9 9 2 0,sI 6 r4.2,sA 5 5 2 0,sA 4 4 2 0,sI 3 r2],[(18,(Vtab.row r10.1)),(16,(Vtab.row r9.1)),(11,(Vtab.row r7.1)),(9,(Vtab.row r6.1)),(5,(Vtab.row r4.1)),(4,(Vtab.row r3))]⟩ kr ?_
   cases h4 : (r12 == r13)
   ·have H := bifF h4 H
    refine tO ⟨113,0,[sB 19 r10.2,sA 18 18 2 0,sB 17 r9.2,sA 16 16 2 0,sB 12 r7.2,sA 11 11 2 0,sB 10 r6.2,sA 9 9 2 0,sI 6 r4.2,sA 5 5 2 0,sA 4 4 2 0,sI 3 r2],[(18,(Vtab.row r10.1)),(16,(Vtab.row r9.1)),(11,(Vtab.row r7.1)),(9,(Vtab.row r6.1)),(5,(Vtab.row r4.1)),(4,(Vtab.row r3))]⟩ kr ?_
    refine Tr.draws mixed 46 kr ⟨113,0,[sB 2 false],[]⟩ (laws_FnNetworksBent_D2 n r3 r2 r11 r10 r9 r7 r6 r4 r12 r13 er11 h2 h3 er12 er13 h4) ?_
    exact te (by obtain rfl := si H; exact fO [(false,[cB false])] kr rfl rfl)
   have H := bifT h4 H
   refine tO ⟨113,0,[sB 19 r10.2,sA 18 18 2 0,sB 17 r9.2,sA 16 16 2 0,sB 12 r7.2,sA 11 11 2 0,sB 10 r6.2,sA 9 9 2 0,sI 6 r4.2,sA 5 5 2 0,sA 4 4 2 0,sI 3 r2],[(18,(Vtab.row r10.1)),(16,(Vtab.row r9.1)),(11,(Vtab.row r7.1)),(9,(Vtab.row r6.1)),(5,(Vtab.row r4.1)),(4,(Vtab.row r3))]⟩ kr ?_
   cases h5 : (r6.2 == r7.2)
   ·have H := bifF h5 H
    refine tO ⟨113,0,[sB 19 r10.2,sA 18 18 2 0,sB 17 r9.2,sA 16 16 2 0,sB 12 r7.2,sA 11 11 2 0,sB 10 r6.2,sA 9 9 2 0,sI 6 r4.2,sA 5 5 2 0,sA 4 4 2 0,sI 3 r2],[(18,(Vtab.row r10.1)),(16,(Vtab.row r9.1)),(11,(Vtab.row r7.1)),(9,(Vtab.row r6.1)),(5,(Vtab.row r4.1)),(4,(Vtab.row r3))]⟩ kr ?_
    refine Tr.draws mixed 46 kr ⟨113,0,[sB 2 false],[]⟩ (laws_FnNetworksBent_D4 n r3 r2 r11 r10 r9 r7 r6 r4 r12 r13 er11 h2 h3 er12 er13 h4 h5) ?_
    exact te (by obtain rfl := si H; exact fO [(false,[cB false])] kr rfl rfl)
   have H := bifT h5 H
   refine tO ⟨113,0,[sB 19 r10.2,sA 18 18 2 0,sB 17 r9.2,sA 16 16 2 0,sB 12 r7.2,sA 11 11 2 0,sB 10 r6.2,sA 9 9 2 0,sI 6 r4.2,sA 5 5 2 0,sA 4 4 2 0,sI 3 r2],[(18,(Vtab.row r10.1)),(16,(Vtab.row r9.1)),(11,(Vtab.row r7.1)),(9,(Vtab.row r6.1)),(5,(Vtab.row r4.1)),(4,(Vtab.row r3))]⟩ kr ?_
   cases h6 : (r9.2 == r10.2)
   ·have H := bifF h6 H
    refine tO ⟨113,0,[sB 19 r10.2,sA 18 18 2 0,sB 17 r9.2,sA 16 16 2 0,sB 12 r7.2,sA 11 11 2 0,sB 10 r6.2,sA 9 9 2 0,sI 6 r4.2,sA 5 5 2 0,sA 4 4 2 0,sI 3 r2],[(18,(Vtab.row r10.1)),(16,(Vtab.row r9.1)),(11,(Vtab.row r7.1)),(9,(Vtab.row r6.1)),(5,(Vtab.row r4.1)),(4,(Vtab.row r3))]⟩ kr ?_
    refine Tr.draws mixed 46 kr ⟨113,0,[sB 2 false],[]⟩ (laws_FnNetworksBent_D6 n r3 r2 r11 r10 r9 r7 r6 r4 r12 r13 er11 h2 h3 er12 er13 h4 h5 h6) ?_
    exact te (by obtain rfl := si H; exact fO [(false,[cB false])] kr rfl rfl)
   have H := bifT h6 H
   obtain ⟨r14,er14,H⟩ := bind_some H
   refine tO ⟨113,0,[sB 19 r10.2,sA 18 18 2 0,sB 17 r9.2,sA 16 16 2 0,sB 12 r7.2,sA 11 11 2 0,sB 10 r6.2,sA 9 9 2 0,sI 6 r4.2,sA 5 5 2 0,sA 4 4 2 0,sI 3 r2],[(18,(Vtab.row r10.1)),(16,(Vtab.row r9.1)),(11,(Vtab.row r7.1)),(9,(Vtab.row r6.1)),(5,(Vtab.row r4.1)),(4,(Vtab.row r3))]⟩ kr ?_
   cases h7 : r14
   ·have H := bifF h7 H
    refine tO ⟨113,0,[sB 19 r10.2,sA 18 18 2 0,sB 17 r9.2,sA 16 16 2 0,sB 12 r7.2,sA 11 11 2 0,sB 10 r6.2,sA 9 9 2 0,sI 6 r4.2,sA 5 5 2 0,sA 4 4 2 0,sI 3 r2],[(18,(Vtab.row r10.1)),(16,(Vtab.row r9.1)),(11,(Vtab.row r7.1)),(9,(Vtab.row r6.1)),(5,(Vtab.row r4.1)),(4,(Vtab.row r3))]⟩ kr ?_
    refine Tr.draws mixed 46 kr ⟨113,0,[sB 2 false],[]⟩ (laws_FnNetworksBent_D8 n r3 r2 r11 r10 r9 r7 r6 r4 r12 r13 r14 er11 h2 h3 er12 er13 h4 h5 h6 er14 h7) ?_
    exact te (by obtain rfl := si H; exact fO [(false,[cB false])] kr rfl rfl)
   have H := bifT h7 H
   obtain ⟨r15,er15,H⟩ := bind_some H
   refine tO ⟨113,0,[sB 19 r10.2,sA 18 18 2 0,sB 17 r9.2,sA 16 16 2 0,sB 12 r7.2,sA 11 11 2 0,sB 10 r6.2,sA 9 9 2 0,sI 6 r4.2,sA 5 5 2 0,sA 4 4 2 0,sI 3 r2],[(18,(Vtab.row r10.1)),(16,(Vtab.row r9.1)),(11,(Vtab.row r7.1)),(9,(Vtab.row r6.1)),(5,(Vtab.row r4.1)),(4,(Vtab.row r3))]⟩ kr ?_
   cases h8 : r15
   ·have H := bifF h8 H
    refine tO ⟨113,0,[sB 19 r10.2,sA 18 18 2 0,sB 17 r9.2,sA 16 16 2 0,sB 12 r7.2,sA 11 11 2 0,sB 10 r6.2,sA 9 9 2 0,sI 6 r4.2,sA 5 5 2 0,sA 4 4 2 0,sI 3 r2],[(18,(Vtab.row r10.1)),(16,(Vtab.row r9.1)),(11,(Vtab.row r7.1)),(9,(Vtab.row r6.1)),(5,(Vtab.row r4.1)),(4,(Vtab.row r3))]⟩ kr ?_
    refine Tr.draws mixed 46 kr ⟨113,0,[sB 2 false],[]⟩ (laws_FnNetworksBent_D10 n r3 r2 r11 r10 r9 r7 r6 r4 r12 r13 r14 r15 er11 h2 h3 er12 er13 h4 h5 h6 er14 h7 er15 h8) ?_
    exact te (by obtain rfl := si H; exact fO [(false,[cB false])] kr rfl rfl)
   have H := bifT h8 H
   obtain ⟨r16,er16,H⟩ := bind_some H
   obtain ⟨r17,er17,H⟩ := bind_some H
   refine tO ⟨113,0,[sB 19 r10.2,sA 18 18 2 0,sB 17 r9.2,sA 16 16 2 0,sB 12 r7.2,sA 11 11 2 0,sB 10 r6.2,sA 9 9 2 0,sI 6 r4.2,sA 5 5 2 0,sA 4 4 2 0,sI 3 r2],[(18,(Vtab.row r10.1)),(16,(Vtab.row r9.1)),(11,(Vtab.row r7.1)),(9,(Vtab.row r6.1)),(5,(Vtab.row r4.1)),(4,(Vtab.row r3))]⟩ kr ?_
   refine Tr.draws mixed 46 kr ⟨113,0,[sB 2 r17],[]⟩ (laws_FnNetworksBent_D12 n r3 r2 r11 r10 r9 r7 r6 r4 r12 r13 r14 r15 r16 r17 er11 h2 h3 er12 er13 h4 h5 h6 er14 h7 er15 h8 er16 er17) ?_
   exact te (by obtain rfl := si H; exact fO [(false,[cB r17])] kr rfl rfl)
  have H := bifT h2 H
  refine tO ⟨113,0,[sB 19 r10.2,sA 18 18 2 0,sB 17 r9.2,sA 16 16 2 0,sB 12 r7.2,sA 11 11 2 0,sB 10 r6.2,sA 9 9 2 0,sI 6 r4.2,sA 5 5 2 0,sA 4 4 2 0,sI 3 r2],[(18,(Vtab.row r10.1)),(16,(Vtab.row r9.1)),(11,(Vtab.row r7.1)),(9,(Vtab.row r6.1)),(5,(Vtab.row r4.1)),(4,(Vtab.row r3))]⟩ kr ?_
  cases h9 : (r11 == (decide (r2 ≤ 6)))
  ·have H := bifF h9 H
   refine tO ⟨113,0,[sB 19 r10.2,sA 18 18 2 0,sB 17 r9.2,sA 16 16 2 0,sB 12 r7.2,sA 11 11 2 0,sB 10 r6.2,sA 9 9 2 0,sI 6 r4.2,sA 5 5 2 0,sA 4 4 2 0,sI 3 r2],[(18,(Vtab.row r10.1)),(16,(Vtab.row r9.1)),(11,(Vtab.row r7.1)),(9,(Vtab.row r6.1)),(5,(Vtab.row r4.1)),(4,(Vtab.row r3))]⟩ kr ?_
   refine Tr.draws mixed 46 kr ⟨113,0,[sB 2 false],[]⟩ (laws_FnNetworksBent_D13 n r3 r2 r11 r10 r9 r7 r6 r4 er11 h2 h9) ?_
   exact te (by obtain rfl := si H; exact fO [(false,[cB false])] kr rfl rfl)
  have H := bifT h9 H
  obtain ⟨r18,er18,H⟩ := bind_some H
  obtain ⟨r19,er19,H⟩ := bind_some H
  refine tO ⟨113,0,[sB 19 r10.2,sA 18 18 2 0,sB 17 r9.2,sA 16 16 2 0,sB 12 r7.2,sA 11 11 2 0,sB 10 r6.2,sA 9 9 2 0,sI 6 r4.2,sA 5 5 2 0,sA 4 4 2 0,sI 3 r2],[(18,(Vtab.row r10.1)),(16,(Vtab.row r9.1)),(11,(Vtab.row r7.1)),(9,(Vtab.row r6.1)),(5,(Vtab.row r4.1)),(4,(Vtab.row r3))]⟩ kr ?_
  cases h10 : (r18 == r19)
  ·have H := bifF h10 H
   refine tO ⟨113,0,[sB 19 r10.2,sA 18 18 2 0,sB 17 r9.2,sA 16 16 2 0,sB 12 r7.2,sA 11 11 2 0,sB 10 r6.2,sA 9 9 2 0,sI 6 r4.2,sA 5 5 2 0,sA 4 4 2 0,sI 3 r2],[(18,(Vtab.row r10.1)),(16,(Vtab.row r9.1)),(11,(Vtab.row r7.1)),(9,(Vtab.row r6.1)),(5,(Vtab.row r4.1)),(4,(Vtab.row r3))]⟩ kr ?_
   refine Tr.draws mixed 46 kr ⟨113,0,[sB 2 false],[]⟩ (laws_FnNetworksBent_D14 n r3 r2 r11 r10 r9 r7 r6 r4 r18 r19 er11 h2 h9 er18 er19 h10) ?_
   exact te (by obtain rfl := si H; exact fO [(false,[cB false])] kr rfl rfl)
  have H := bifT h10 H
  refine tO ⟨113,0,[sB 19 r10.2,sA 18 18 2 0,sB 17 r9.2,sA 16 16 2 0,sB 12 r7.2,sA 11 11 2 0,sB 10 r6.2,sA 9 9 2 0,sI 6 r4.2,sA 5 5 2 0,sA 4 4 2 0,sI 3 r2],[(18,(Vtab.row r10.1)),(16,(Vtab.row r9.1)),(11,(Vtab.row r7.1)),(9,(Vtab.row r6.1)),(5,(Vtab.row r4.1)),(4,(Vtab.row r3))]⟩ kr ?_
  cases h11 : (r6.2 == r7.2)
  ·have H := bifF h11 H
   refine tO ⟨113,0,[sB 19 r10.2,sA 18 18 2 0,sB 17 r9.2,sA 16 16 2 0,sB 12 r7.2,sA 11 11 2 0,sB 10 r6.2,sA 9 9 2 0,sI 6 r4.2,sA 5 5 2 0,sA 4 4 2 0,sI 3 r2],[(18,(Vtab.row r10.1)),(16,(Vtab.row r9.1)),(11,(Vtab.row r7.1)),(9,(Vtab.row r6.1)),(5,(Vtab.row r4.1)),(4,(Vtab.row r3))]⟩ kr ?_
   refine Tr.draws mixed 46 kr ⟨113,0,[sB 2 false],[]⟩ (laws_FnNetworksBent_D16 n r3 r2 r11 r10 r9 r7 r6 r4 r18 r19 er11 h2 h9 er18 er19 h10 h11) ?_
   exact te (by obtain rfl := si H; exact fO [(false,[cB false])] kr rfl rfl)
  have H := bifT h11 H
  refine tO ⟨113,0,[sB 19 r10.2,sA 18 18 2 0,sB 17 r9.2,sA 16 16 2 0,sB 12 r7.2,sA 11 11 2 0,sB 10 r6.2,sA 9 9 2 0,sI 6 r4.2,sA 5 5 2 0,sA 4 4 2 0,sI 3 r2],[(18,(Vtab.row r10.1)),(16,(Vtab.row r9.1)),(11,(Vtab.row r7.1)),(9,(Vtab.row r6.1)),(5,(Vtab.row r4.1)),(4,(Vtab.row r3))]⟩ kr ?_
  cases h12 : (r9.2 == r10.2)
  ·have H := bifF h12 H
   refine tO ⟨113,0,[sB 19 r10.2,sA 18 18 2 0,sB 17 r9.2,sA 16 16 2 0,sB 12 r7.2,sA 11 11 2 0,sB 10 r6.2,sA 9 9 2 0,sI 6 r4.2,sA 5 5 2 0,sA 4 4 2 0,sI 3 r2],[(18,(Vtab.row r10.1)),(16,(Vtab.row r9.1)),(11,(Vtab.row r7.1)),(9,(Vtab.row r6.1)),(5,(Vtab.row r4.1)),(4,(Vtab.row r3))]⟩ kr ?_
   refine Tr.draws mixed 46 kr ⟨113,0,[sB 2 false],[]⟩ (laws_FnNetworksBent_D18 n r3 r2 r11 r10 r9 r7 r6 r4 r18 r19 er11 h2 h9 er18 er19 h10 h11 h12) ?_
   exact te (by obtain rfl := si H; exact fO [(false,[cB false])] kr rfl rfl)
  have H := bifT h12 H
  obtain ⟨r20,er20,H⟩ := bind_some H
  refine tO ⟨113,0,[sB 19 r10.2,sA 18 18 2 0,sB 17 r9.2,sA 16 16 2 0,sB 12 r7.2,sA 11 11 2 0,sB 10 r6.2,sA 9 9 2 0,sI 6 r4.2,sA 5 5 2 0,sA 4 4 2 0,sI 3 r2],[(18,(Vtab.row r10.1)),(16,(Vtab.row r9.1)),(11,(Vtab.row r7.1)),(9,(Vtab.row r6.1)),(5,(Vtab.row r4.1)),(4,(Vtab.row r3))]⟩ kr ?_
  cases h13 : r20
  ·have H := bifF h13 H
   refine tO ⟨113,0,[sB 19 r10.2,sA 18 18 2 0,sB 17 r9.2,sA 16 16 2 0,sB 12 r7.2,sA 11 11 2 0,sB 10 r6.2,sA 9 9 2 0,sI 6 r4.2,sA 5 5 2 0,sA 4 4 2 0,sI 3 r2],[(18,(Vtab.row r10.1)),(16,(Vtab.row r9.1)),(11,(Vtab.row r7.1)),(9,(Vtab.row r6.1)),(5,(Vtab.row r4.1)),(4,(Vtab.row r3))]⟩ kr ?_
   refine Tr.draws mixed 46 kr ⟨113,0,[sB 2 false],[]⟩ (laws_FnNetworksBent_D20 n r3 r2 r11 r10 r9 r7 r6 r4 r18 r19 r20 er11 h2 h9 er18 er19 h10 h11 h12 er20 h13) ?_
   exact te (by obtain rfl := si H; exact fO [(false,[cB false])] kr rfl rfl)
  have H := bifT h13 H
  obtain ⟨r21,er21,H⟩ := bind_some H
  refine tO ⟨113,0,[sB 19 r10.2,sA 18 18 2 0,sB 17 r9.2,sA 16 16 2 0,sB 12 r7.2,sA 11 11 2 0,sB 10 r6.2,sA 9 9 2 0,sI 6 r4.2,sA 5 5 2 0,sA 4 4 2 0,sI 3 r2],[(18,(Vtab.row r10.1)),(16,(Vtab.row r9.1)),(11,(Vtab.row r7.1)),(9,(Vtab.row r6.1)),(5,(Vtab.row r4.1)),(4,(Vtab.row r3))]⟩ kr ?_
  cases h14 : r21
  ·have H := bifF h14 H
   refine tO ⟨113,0,[sB 19 r10.2,sA 18 18 2 0,sB 17 r9.2,sA 16 16 2 0,sB 12 r7.2,sA 11 11 2 0,sB 10 r6.2,sA 9 9 2 0,sI 6 r4.2,sA 5 5 2 0,sA 4 4 2 0,sI 3 r2],[(18,(Vtab.row r10.1)),(16,(Vtab.row r9.1)),(11,(Vtab.row r7.1)),(9,(Vtab.row r6.1)),(5,(Vtab.row r4.1)),(4,(Vtab.row r3))]⟩ kr ?_
   refine Tr.draws mixed 46 kr ⟨113,0,[sB 2 false],[]⟩ (laws_FnNetworksBent_D22 n r3 r2 r11 r10 r9 r7 r6 r4 r18 r19 r20 r21 er11 h2 h9 er18 er19 h10 h11 h12 er20 h13 er21 h14) ?_
   exact te (by obtain rfl := si H; exact fO [(false,[cB false])] kr rfl rfl)
  have H := bifT h14 H
  obtain ⟨r22,er22,H⟩ := bind_some H
  obtain ⟨r23,er23,H⟩ := bind_some H
  refine tO ⟨113,0,[sB 19 r10.2,sA 18 18 2 0,sB 17 r9.2,sA 16 16 2 0,sB 12 r7.2,sA 11 11 2 0,sB 10 r6.2,sA 9 9 2 0,sI 6 r4.2,sA 5 5 2 0,sA 4 4 2 0,sI 3 r2],[(18,(Vtab.row r10.1)),(16,(Vtab.row r9.1)),(11,(Vtab.row r7.1)),(9,(Vtab.row r6.1)),(5,(Vtab.row r4.1)),(4,(Vtab.row r3))]⟩ kr ?_
  refine Tr.draws mixed 46 kr ⟨113,0,[sB 2 r23],[]⟩ (laws_FnNetworksBent_D24 n r3 r2 r11 r10 r9 r7 r6 r4 r18 r19 r20 r21 r22 r23 er11 h2 h9 er18 er19 h10 h11 h12 er20 h13 er21 h14 er22 er23) ?_
  exact te (by obtain rfl := si H; exact fO [(false,[cB r23])] kr rfl rfl)
 have H := bifT h1 H
 refine tt kr ?_
 refine tG tOk 1 4 0 kr kr ?_
 exact te (by obtain rfl := si H; exact fO [(false,[cB true])] kr rfl rfl)
end Go.Proofs.Ytcegokjpmppdbaa.Tw
