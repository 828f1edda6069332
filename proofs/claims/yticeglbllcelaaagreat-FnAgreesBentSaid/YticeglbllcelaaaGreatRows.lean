/-
  No cell of these rows narrows 'for every input' (looked for: loops, veiled, ifaces, maps, wideKeys, modest, calm, conditions, laid).
  DERIVED. THE GIVEN ROWS OF THIS SEAT. 3 by the template 'for every input the law returns true; each argument reads behind the call as it read before'; 0 by the template 'total and deterministic' (their statements: YticeglbllcelaaaGreatTotals.lean).
  GIVEN WITH THE SEED: the statements are not yours to turn. If you find one false, say at which input.
  Laid BY PROGRAM, IN A SANDBOX (cutbox-rows.mjs): the forced cells as the released guide's own fill.sh prints them over the translation 54dfb35b1dd0dcb0… (all of the seat's roots in one cut). By AI agents, Wed Nov 11 2026. No macro, syntax, notation, axiom, sorry.
-/
import Derived.Test.YticeglbllcelaaaGreatChecked
import GoSem.Claim
import GoSem.ClaimJoined
import GoSem.ClaimMapViews
import Derived.JoinedTies
import Derived.KernelRfl
namespace Go.Proofs.YticeglbllcelaaaGreat
/- THE CELL 'sum', in the pinned program and in every row, IS THE sha256 OF THE DUMP (.gsa) THAT YticeglbllcelaaaGreatProg.lean LOADS. Nothing in Lean hashes anything: it is a label: what it is worth is what the hold of that sum in a sandbox is worth. -/
noncomputable def Tryz.pinned : Pinned := { name := "yticeglbllcelaaagreat", sum := "54dfb35b1dd0dcb05e5273bfe80354bfd8f11fddc11a9712fd202dc1d49b16bd", checked := Tryz.checked }
namespace Rows
def none {H : Type} : Left H := { results := [], args := [] }

/-- 'laws.FnAgreesBent': WHATEVER THE INPUT: true; the input reads as it did. -/
def fnAgreesBentSpec : ChangeSpec := { name := "fnAgreesBent", fn := fun _ => fun
  | [d] => { results := [.lit (.bool true)], args := [d] }
  | _ => none }
def fnAgreesBentRow : OpenClaim := { program := "yticeglbllcelaaagreat", sum := "54dfb35b1dd0dcb05e5273bfe80354bfd8f11fddc11a9712fd202dc1d49b16bd", func := "loop.example/g00326/laws.FnAgreesBent", spec := "fnAgreesBent", unfollowed := true, recurses := true, apart := false }
def FnAgreesBentSaid : Prop := fnAgreesBentRow.holds Tryz.pinned (OpenSpec.ofChange fnAgreesBentSpec)

/-- ITS FALSE NEIGHBOUR: 'it returns false'. Refute it at one input. -/
def fnAgreesBentWrong : ChangeSpec := { name := "fnAgreesBent", fn := fun _ => fun
  | [d] => { results := [.lit (.bool false)], args := [d] }
  | _ => none }
def FnAgreesBentWrongFalsely : Prop := fnAgreesBentRow.holds Tryz.pinned (OpenSpec.ofChange fnAgreesBentWrong)

/-- 'laws.FnStepsBent': WHATEVER THE INPUT: true; the input reads as it did. -/
def fnStepsBentSpec : ChangeSpec := { name := "fnStepsBent", fn := fun _ => fun
  | [d] => { results := [.lit (.bool true)], args := [d] }
  | _ => none }
def fnStepsBentRow : OpenClaim := { program := "yticeglbllcelaaagreat", sum := "54dfb35b1dd0dcb05e5273bfe80354bfd8f11fddc11a9712fd202dc1d49b16bd", func := "loop.example/g00326/laws.FnStepsBent", spec := "fnStepsBent", apart := false }
def FnStepsBentSaid : Prop := fnStepsBentRow.holds Tryz.pinned (OpenSpec.ofChange fnStepsBentSpec)

/-- ITS FALSE NEIGHBOUR: 'it returns false'. Refute it at one input. -/
def fnStepsBentWrong : ChangeSpec := { name := "fnStepsBent", fn := fun _ => fun
  | [d] => { results := [.lit (.bool false)], args := [d] }
  | _ => none }
def FnStepsBentWrongFalsely : Prop := fnStepsBentRow.holds Tryz.pinned (OpenSpec.ofChange fnStepsBentWrong)

/-- 'laws.FnAgreedTree': WHATEVER THE INPUT: true; the input reads as it did. -/
def fnAgreedTreeSpec : ChangeSpec := { name := "fnAgreedTree", fn := fun _ => fun
  | [d] => { results := [.lit (.bool true)], args := [d] }
  | _ => none }
def fnAgreedTreeRow : OpenClaim := { program := "yticeglbllcelaaagreat", sum := "54dfb35b1dd0dcb05e5273bfe80354bfd8f11fddc11a9712fd202dc1d49b16bd", func := "loop.example/g00326/laws.FnAgreedTree", spec := "fnAgreedTree", apart := false }
def FnAgreedTreeSaid : Prop := fnAgreedTreeRow.holds Tryz.pinned (OpenSpec.ofChange fnAgreedTreeSpec)

/-- ITS FALSE NEIGHBOUR: 'it returns false'. Refute it at one input. -/
def fnAgreedTreeWrong : ChangeSpec := { name := "fnAgreedTree", fn := fun _ => fun
  | [d] => { results := [.lit (.bool false)], args := [d] }
  | _ => none }
def FnAgreedTreeWrongFalsely : Prop := fnAgreedTreeRow.holds Tryz.pinned (OpenSpec.ofChange fnAgreedTreeWrong)

/- THE SECOND FORM. 'bulk': how many values and letters a reading holds, each counted each time it is reached (what is shared counts as often as it is met; a slice's spare places count too). A statement '..UptoSaid' is the law's where the arguments, and the package variables that the reading takes, are together of bulk at most 1048576: NARROWER than '..Said'. Prove '..Said' where nothing that the law and all that it calls make is longer than what came in: it says more and counts as full. Else prove '..UptoSaid'. A law counts once. -/
mutual
def uptoBulk {H : Type} : DataW H → Nat
  | .lit (.string bytes) => bytes.length + 1
  | .lit _ => 1
  | .nil => 1
  | .ptr d => uptoBulk d + 1
  | .slice elems spare => uptoBulkAll elems + uptoBulkAll spare + 1
  | .agg parts => uptoBulkAll parts + 1
  | .iface _ d => uptoBulk d + 1
  | .map entries => uptoBulkEntries entries + 1
  | .held _ => 1
def uptoBulkAll {H : Type} : List (DataW H) → Nat
  | [] => 0
  | d :: r => uptoBulk d + uptoBulkAll r
def uptoBulkEntries {H : Type} : List (Lit × DataW H) → Nat
  | [] => 0
  | x :: r => uptoBulkEntry x + uptoBulkEntries r
def uptoBulkEntry {H : Type} : Lit × DataW H → Nat
  | (.string bytes, d) => bytes.length + uptoBulk d + 1
  | (_, d) => uptoBulk d + 1
 end
def uptoSmall : (H : Type) → List (DataW H) → Bool := fun _ ds => decide (uptoBulkAll ds ≤ 1048576)
def OpenSpec.upto (s : _root_.Go.ChangeSpec) : _root_.Go.OpenSpec := { _root_.Go.OpenSpec.ofChange s with cond := some uptoSmall }

/-- 'laws.FnAgreesBent', WHERE WHAT IT READS IS OF BULK AT MOST 1048576: true; the input reads as it did. -/
def fnAgreesBentUptoRow : OpenClaim := { program := "yticeglbllcelaaagreat", sum := "54dfb35b1dd0dcb05e5273bfe80354bfd8f11fddc11a9712fd202dc1d49b16bd", func := "loop.example/g00326/laws.FnAgreesBent", spec := "fnAgreesBent", unfollowed := true, recurses := true, apart := false, narrowed := true }
def FnAgreesBentUptoSaid : Prop := fnAgreesBentUptoRow.holds Tryz.pinned (OpenSpec.upto fnAgreesBentSpec)

/-- 'laws.FnStepsBent', WHERE WHAT IT READS IS OF BULK AT MOST 1048576: true; the input reads as it did. -/
def fnStepsBentUptoRow : OpenClaim := { program := "yticeglbllcelaaagreat", sum := "54dfb35b1dd0dcb05e5273bfe80354bfd8f11fddc11a9712fd202dc1d49b16bd", func := "loop.example/g00326/laws.FnStepsBent", spec := "fnStepsBent", apart := false, narrowed := true }
def FnStepsBentUptoSaid : Prop := fnStepsBentUptoRow.holds Tryz.pinned (OpenSpec.upto fnStepsBentSpec)

/-- 'laws.FnAgreedTree', WHERE WHAT IT READS IS OF BULK AT MOST 1048576: true; the input reads as it did. -/
def fnAgreedTreeUptoRow : OpenClaim := { program := "yticeglbllcelaaagreat", sum := "54dfb35b1dd0dcb05e5273bfe80354bfd8f11fddc11a9712fd202dc1d49b16bd", func := "loop.example/g00326/laws.FnAgreedTree", spec := "fnAgreedTree", apart := false, narrowed := true }
def FnAgreedTreeUptoSaid : Prop := fnAgreedTreeUptoRow.holds Tryz.pinned (OpenSpec.upto fnAgreedTreeSpec)

end Rows
end Go.Proofs.YticeglbllcelaaaGreat
