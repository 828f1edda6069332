/-
  No cell of these rows narrows 'for every input' (looked for: loops, veiled, ifaces, maps, wideKeys, modest, calm, conditions, laid).
  DERIVED. THE GIVEN ROWS OF THIS SEAT. 5 by the template 'for every input the law returns true; each argument reads behind the call as it read before'; 0 by the template 'total and deterministic' (their statements: YtajadnlejdpceaaGreatTotals.lean).
  GIVEN WITH THE SEED: the statements are not yours to turn. If you find one false, say at which input.
  Laid BY PROGRAM, IN A SANDBOX (cutbox-rows.mjs): the forced cells as the released guide's own fill.sh prints them over the translation 46c4a616ec02439e… (all of the seat's roots in one cut). By AI agents, Wed Nov 11 2026. No macro, syntax, notation, axiom, sorry.
-/
import Derived.Test.YtajadnlejdpceaaGreatChecked
import GoSem.Claim
import GoSem.ClaimJoined
import GoSem.ClaimMapViews
import Derived.JoinedTies
import Derived.KernelRfl
namespace Go.Proofs.YtajadnlejdpceaaGreat
/- THE CELL 'sum', in the pinned program and in every row, IS THE sha256 OF THE DUMP (.gsa) THAT YtajadnlejdpceaaGreatProg.lean LOADS. Nothing in Lean hashes anything: it is a label: what it is worth is what the hold of that sum in a sandbox is worth. -/
noncomputable def Tryz.pinned : Pinned := { name := "ytajadnlejdpceaagreat", sum := "46c4a616ec02439e270409331ec1c86038cacd3e122e14dd067edce4e045160d", checked := Tryz.checked }
namespace Rows
def none {H : Type} : Left H := { results := [], args := [] }

/-- 'laws.FnBridgesBent': WHATEVER THE INPUT: true; the input reads as it did. -/
def fnBridgesBentSpec : ChangeSpec := { name := "fnBridgesBent", fn := fun _ => fun
  | [d] => { results := [.lit (.bool true)], args := [d] }
  | _ => none }
def fnBridgesBentRow : OpenClaim := { program := "ytajadnlejdpceaagreat", sum := "46c4a616ec02439e270409331ec1c86038cacd3e122e14dd067edce4e045160d", func := "loop.example/g00326/laws.FnBridgesBent", spec := "fnBridgesBent", apart := false }
def FnBridgesBentSaid : Prop := fnBridgesBentRow.holds Tryz.pinned (OpenSpec.ofChange fnBridgesBentSpec)

/-- ITS FALSE NEIGHBOUR: 'it returns false'. Refute it at one input. -/
def fnBridgesBentWrong : ChangeSpec := { name := "fnBridgesBent", fn := fun _ => fun
  | [d] => { results := [.lit (.bool false)], args := [d] }
  | _ => none }
def FnBridgesBentWrongFalsely : Prop := fnBridgesBentRow.holds Tryz.pinned (OpenSpec.ofChange fnBridgesBentWrong)

/-- 'laws.FnAgreedTree': WHATEVER THE INPUT: true; the input reads as it did. -/
def fnAgreedTreeSpec : ChangeSpec := { name := "fnAgreedTree", fn := fun _ => fun
  | [d] => { results := [.lit (.bool true)], args := [d] }
  | _ => none }
def fnAgreedTreeRow : OpenClaim := { program := "ytajadnlejdpceaagreat", sum := "46c4a616ec02439e270409331ec1c86038cacd3e122e14dd067edce4e045160d", func := "loop.example/g00326/laws.FnAgreedTree", spec := "fnAgreedTree", apart := false }
def FnAgreedTreeSaid : Prop := fnAgreedTreeRow.holds Tryz.pinned (OpenSpec.ofChange fnAgreedTreeSpec)

/-- ITS FALSE NEIGHBOUR: 'it returns false'. Refute it at one input. -/
def fnAgreedTreeWrong : ChangeSpec := { name := "fnAgreedTree", fn := fun _ => fun
  | [d] => { results := [.lit (.bool false)], args := [d] }
  | _ => none }
def FnAgreedTreeWrongFalsely : Prop := fnAgreedTreeRow.holds Tryz.pinned (OpenSpec.ofChange fnAgreedTreeWrong)

/-- 'laws.FnNets': WHATEVER THE INPUT: true; the input reads as it did. -/
def fnNetsSpec : ChangeSpec := { name := "fnNets", fn := fun _ => fun
  | [d] => { results := [.lit (.bool true)], args := [d] }
  | _ => none }
def fnNetsRow : OpenClaim := { program := "ytajadnlejdpceaagreat", sum := "46c4a616ec02439e270409331ec1c86038cacd3e122e14dd067edce4e045160d", func := "loop.example/g00326/laws.FnNets", spec := "fnNets", apart := false }
def FnNetsSaid : Prop := fnNetsRow.holds Tryz.pinned (OpenSpec.ofChange fnNetsSpec)

/-- ITS FALSE NEIGHBOUR: 'it returns false'. Refute it at one input. -/
def fnNetsWrong : ChangeSpec := { name := "fnNets", fn := fun _ => fun
  | [d] => { results := [.lit (.bool false)], args := [d] }
  | _ => none }
def FnNetsWrongFalsely : Prop := fnNetsRow.holds Tryz.pinned (OpenSpec.ofChange fnNetsWrong)

/-- 'laws.FnAgreesBent': WHATEVER THE INPUT: true; the input reads as it did. -/
def fnAgreesBentSpec : ChangeSpec := { name := "fnAgreesBent", fn := fun _ => fun
  | [d] => { results := [.lit (.bool true)], args := [d] }
  | _ => none }
def fnAgreesBentRow : OpenClaim := { program := "ytajadnlejdpceaagreat", sum := "46c4a616ec02439e270409331ec1c86038cacd3e122e14dd067edce4e045160d", func := "loop.example/g00326/laws.FnAgreesBent", spec := "fnAgreesBent", unfollowed := true, recurses := true, apart := false }
def FnAgreesBentSaid : Prop := fnAgreesBentRow.holds Tryz.pinned (OpenSpec.ofChange fnAgreesBentSpec)

/-- ITS FALSE NEIGHBOUR: 'it returns false'. Refute it at one input. -/
def fnAgreesBentWrong : ChangeSpec := { name := "fnAgreesBent", fn := fun _ => fun
  | [d] => { results := [.lit (.bool false)], args := [d] }
  | _ => none }
def FnAgreesBentWrongFalsely : Prop := fnAgreesBentRow.holds Tryz.pinned (OpenSpec.ofChange fnAgreesBentWrong)

/-- 'laws.FnStepsBent': WHATEVER THE INPUT: true; the input reads as it did. -/
def fnStepsBentSpec : ChangeSpec := { name := "fnStepsBent", fn := fun _ => fun
  | [d] => { results := [.lit (.bool true)], args := [d] }
  | _ => none }
def fnStepsBentRow : OpenClaim := { program := "ytajadnlejdpceaagreat", sum := "46c4a616ec02439e270409331ec1c86038cacd3e122e14dd067edce4e045160d", func := "loop.example/g00326/laws.FnStepsBent", spec := "fnStepsBent", apart := false }
def FnStepsBentSaid : Prop := fnStepsBentRow.holds Tryz.pinned (OpenSpec.ofChange fnStepsBentSpec)

/-- ITS FALSE NEIGHBOUR: 'it returns false'. Refute it at one input. -/
def fnStepsBentWrong : ChangeSpec := { name := "fnStepsBent", fn := fun _ => fun
  | [d] => { results := [.lit (.bool false)], args := [d] }
  | _ => none }
def FnStepsBentWrongFalsely : Prop := fnStepsBentRow.holds Tryz.pinned (OpenSpec.ofChange fnStepsBentWrong)

/- THE SECOND FORM. 'bulk': how many values and letters a reading holds, each counted each time it is reached (what is shared counts as often as it is met; a slice's spare places count too). A statement '..UptoSaid' is the law's where the arguments, and the package variables that the reading takes, are together of bulk at most 1048576: NARROWER than '..Said'. Prove '..Said' where nothing that the law and all that it calls make is longer than what came in: it says more and counts as full. Else prove '..UptoSaid'. A law counts once. -/
mutual
def uptoBulk {H : Type} : DataW H → Nat
  | .lit (.string bytes) => bytes.length + 1
  | .lit _ => 1
  | .nil => 1
  | .ptr d => uptoBulk d + 1
  | .slice elems spare => uptoBulkAll elems + uptoBulkAll spare + 1
  | .agg parts => uptoBulkAll parts + 1
  | .iface _ d => uptoBulk d + 1
  | .map entries => uptoBulkEntries entries + 1
  | .held _ => 1
def uptoBulkAll {H : Type} : List (DataW H) → Nat
  | [] => 0
  | d :: r => uptoBulk d + uptoBulkAll r
def uptoBulkEntries {H : Type} : List (Lit × DataW H) → Nat
  | [] => 0
  | x :: r => uptoBulkEntry x + uptoBulkEntries r
def uptoBulkEntry {H : Type} : Lit × DataW H → Nat
  | (.string bytes, d) => bytes.length + uptoBulk d + 1
  | (_, d) => uptoBulk d + 1
 end
def uptoSmall : (H : Type) → List (DataW H) → Bool := fun _ ds => decide (uptoBulkAll ds ≤ 1048576)
def OpenSpec.upto (s : _root_.Go.ChangeSpec) : _root_.Go.OpenSpec := { _root_.Go.OpenSpec.ofChange s with cond := some uptoSmall }

/-- 'laws.FnBridgesBent', WHERE WHAT IT READS IS OF BULK AT MOST 1048576: true; the input reads as it did. -/
def fnBridgesBentUptoRow : OpenClaim := { program := "ytajadnlejdpceaagreat", sum := "46c4a616ec02439e270409331ec1c86038cacd3e122e14dd067edce4e045160d", func := "loop.example/g00326/laws.FnBridgesBent", spec := "fnBridgesBent", apart := false, narrowed := true }
def FnBridgesBentUptoSaid : Prop := fnBridgesBentUptoRow.holds Tryz.pinned (OpenSpec.upto fnBridgesBentSpec)

/-- 'laws.FnAgreedTree', WHERE WHAT IT READS IS OF BULK AT MOST 1048576: true; the input reads as it did. -/
def fnAgreedTreeUptoRow : OpenClaim := { program := "ytajadnlejdpceaagreat", sum := "46c4a616ec02439e270409331ec1c86038cacd3e122e14dd067edce4e045160d", func := "loop.example/g00326/laws.FnAgreedTree", spec := "fnAgreedTree", apart := false, narrowed := true }
def FnAgreedTreeUptoSaid : Prop := fnAgreedTreeUptoRow.holds Tryz.pinned (OpenSpec.upto fnAgreedTreeSpec)

/-- 'laws.FnNets', WHERE WHAT IT READS IS OF BULK AT MOST 1048576: true; the input reads as it did. -/
def fnNetsUptoRow : OpenClaim := { program := "ytajadnlejdpceaagreat", sum := "46c4a616ec02439e270409331ec1c86038cacd3e122e14dd067edce4e045160d", func := "loop.example/g00326/laws.FnNets", spec := "fnNets", apart := false, narrowed := true }
def FnNetsUptoSaid : Prop := fnNetsUptoRow.holds Tryz.pinned (OpenSpec.upto fnNetsSpec)

/-- 'laws.FnAgreesBent', WHERE WHAT IT READS IS OF BULK AT MOST 1048576: true; the input reads as it did. -/
def fnAgreesBentUptoRow : OpenClaim := { program := "ytajadnlejdpceaagreat", sum := "46c4a616ec02439e270409331ec1c86038cacd3e122e14dd067edce4e045160d", func := "loop.example/g00326/laws.FnAgreesBent", spec := "fnAgreesBent", unfollowed := true, recurses := true, apart := false, narrowed := true }
def FnAgreesBentUptoSaid : Prop := fnAgreesBentUptoRow.holds Tryz.pinned (OpenSpec.upto fnAgreesBentSpec)

/-- 'laws.FnStepsBent', WHERE WHAT IT READS IS OF BULK AT MOST 1048576: true; the input reads as it did. -/
def fnStepsBentUptoRow : OpenClaim := { program := "ytajadnlejdpceaagreat", sum := "46c4a616ec02439e270409331ec1c86038cacd3e122e14dd067edce4e045160d", func := "loop.example/g00326/laws.FnStepsBent", spec := "fnStepsBent", apart := false, narrowed := true }
def FnStepsBentUptoSaid : Prop := fnStepsBentUptoRow.holds Tryz.pinned (OpenSpec.upto fnStepsBentSpec)

end Rows
end Go.Proofs.YtajadnlejdpceaaGreat
