/-
  No cell of these rows narrows 'for every input' (looked for: loops, veiled, ifaces, maps, wideKeys, modest, calm, conditions, laid).
  DERIVED. THE GIVEN ROWS OF THIS SEAT. 5 by the template 'for every input the law returns true; each argument reads behind the call as it read before'; 0 by the template 'total and deterministic' (their statements: YtajadnlejdpceaaTotals.lean).
  GIVEN WITH THE SEED: the statements are not yours to turn. If you find one false, say at which input.
  Laid BY PROGRAM, IN A SANDBOX (cutbox-rows.mjs): the forced cells as the released guide's own fill.sh prints them over the translation 596b36b1fb430fce… (all of the seat's roots in one cut). By AI agents, Wed Nov 11 2026. No macro, syntax, notation, axiom, sorry.
-/
import Derived.Test.YtajadnlejdpceaaChecked
import GoSem.Claim
import GoSem.ClaimJoined
import GoSem.ClaimMapViews
import Derived.JoinedTies
import Derived.KernelRfl
namespace Go.Proofs.Ytajadnlejdpceaa
/- THE CELL 'sum', in the pinned program and in every row, IS THE sha256 OF THE DUMP (.gsa) THAT YtajadnlejdpceaaProg.lean LOADS. Nothing in Lean hashes anything: it is a label: what it is worth is what the hold of that sum in a sandbox is worth. -/
noncomputable def Try.pinned : Pinned := { name := "ytajadnlejdpceaa", sum := "596b36b1fb430fce6b8394f98a4da22852926ebca2b9357fed93e12dc1764631", checked := Try.checked }
namespace Rows
def none {H : Type} : Left H := { results := [], args := [] }

/-- 'laws.FnExactFits': WHATEVER THE INPUT: true; the input reads as it did. -/
def fnExactFitsSpec : ChangeSpec := { name := "fnExactFits", fn := fun _ => fun
  | [d] => { results := [.lit (.bool true)], args := [d] }
  | _ => none }
def fnExactFitsRow : OpenClaim := { program := "ytajadnlejdpceaa", sum := "596b36b1fb430fce6b8394f98a4da22852926ebca2b9357fed93e12dc1764631", func := "loop.example/g00326/laws.FnExactFits", spec := "fnExactFits", apart := false }
def FnExactFitsSaid : Prop := fnExactFitsRow.holds Try.pinned (OpenSpec.ofChange fnExactFitsSpec)

/-- ITS FALSE NEIGHBOUR: 'it returns false'. Refute it at one input. -/
def fnExactFitsWrong : ChangeSpec := { name := "fnExactFits", fn := fun _ => fun
  | [d] => { results := [.lit (.bool false)], args := [d] }
  | _ => none }
def FnExactFitsWrongFalsely : Prop := fnExactFitsRow.holds Try.pinned (OpenSpec.ofChange fnExactFitsWrong)

/-- 'laws.FnBridges': WHATEVER THE INPUT: true; the input reads as it did. -/
def fnBridgesSpec : ChangeSpec := { name := "fnBridges", fn := fun _ => fun
  | [d] => { results := [.lit (.bool true)], args := [d] }
  | _ => none }
def fnBridgesRow : OpenClaim := { program := "ytajadnlejdpceaa", sum := "596b36b1fb430fce6b8394f98a4da22852926ebca2b9357fed93e12dc1764631", func := "loop.example/g00326/laws.FnBridges", spec := "fnBridges", apart := false }
def FnBridgesSaid : Prop := fnBridgesRow.holds Try.pinned (OpenSpec.ofChange fnBridgesSpec)

/-- ITS FALSE NEIGHBOUR: 'it returns false'. Refute it at one input. -/
def fnBridgesWrong : ChangeSpec := { name := "fnBridges", fn := fun _ => fun
  | [d] => { results := [.lit (.bool false)], args := [d] }
  | _ => none }
def FnBridgesWrongFalsely : Prop := fnBridgesRow.holds Try.pinned (OpenSpec.ofChange fnBridgesWrong)

/-- 'laws.FnNexts': WHATEVER THE INPUT: true; the input reads as it did. -/
def fnNextsSpec : ChangeSpec := { name := "fnNexts", fn := fun _ => fun
  | [d] => { results := [.lit (.bool true)], args := [d] }
  | _ => none }
def fnNextsRow : OpenClaim := { program := "ytajadnlejdpceaa", sum := "596b36b1fb430fce6b8394f98a4da22852926ebca2b9357fed93e12dc1764631", func := "loop.example/g00326/laws.FnNexts", spec := "fnNexts", apart := false }
def FnNextsSaid : Prop := fnNextsRow.holds Try.pinned (OpenSpec.ofChange fnNextsSpec)

/-- ITS FALSE NEIGHBOUR: 'it returns false'. Refute it at one input. -/
def fnNextsWrong : ChangeSpec := { name := "fnNexts", fn := fun _ => fun
  | [d] => { results := [.lit (.bool false)], args := [d] }
  | _ => none }
def FnNextsWrongFalsely : Prop := fnNextsRow.holds Try.pinned (OpenSpec.ofChange fnNextsWrong)

/-- 'laws.FnTrueWays': WHATEVER THE INPUT: true; the input reads as it did. -/
def fnTrueWaysSpec : ChangeSpec := { name := "fnTrueWays", fn := fun _ => fun
  | [d] => { results := [.lit (.bool true)], args := [d] }
  | _ => none }
def fnTrueWaysRow : OpenClaim := { program := "ytajadnlejdpceaa", sum := "596b36b1fb430fce6b8394f98a4da22852926ebca2b9357fed93e12dc1764631", func := "loop.example/g00326/laws.FnTrueWays", spec := "fnTrueWays", unfollowed := true, recurses := true, apart := false }
def FnTrueWaysSaid : Prop := fnTrueWaysRow.holds Try.pinned (OpenSpec.ofChange fnTrueWaysSpec)

/-- ITS FALSE NEIGHBOUR: 'it returns false'. Refute it at one input. -/
def fnTrueWaysWrong : ChangeSpec := { name := "fnTrueWays", fn := fun _ => fun
  | [d] => { results := [.lit (.bool false)], args := [d] }
  | _ => none }
def FnTrueWaysWrongFalsely : Prop := fnTrueWaysRow.holds Try.pinned (OpenSpec.ofChange fnTrueWaysWrong)

/-- 'laws.FnSettles': WHATEVER THE INPUT: true; the input reads as it did. -/
def fnSettlesSpec : ChangeSpec := { name := "fnSettles", fn := fun _ => fun
  | [d] => { results := [.lit (.bool true)], args := [d] }
  | _ => none }
def fnSettlesRow : OpenClaim := { program := "ytajadnlejdpceaa", sum := "596b36b1fb430fce6b8394f98a4da22852926ebca2b9357fed93e12dc1764631", func := "loop.example/g00326/laws.FnSettles", spec := "fnSettles", apart := false }
def FnSettlesSaid : Prop := fnSettlesRow.holds Try.pinned (OpenSpec.ofChange fnSettlesSpec)

/-- ITS FALSE NEIGHBOUR: 'it returns false'. Refute it at one input. -/
def fnSettlesWrong : ChangeSpec := { name := "fnSettles", fn := fun _ => fun
  | [d] => { results := [.lit (.bool false)], args := [d] }
  | _ => none }
def FnSettlesWrongFalsely : Prop := fnSettlesRow.holds Try.pinned (OpenSpec.ofChange fnSettlesWrong)

/- THE SECOND FORM. 'bulk': how many values and letters a reading holds, each counted each time it is reached (what is shared counts as often as it is met; a slice's spare places count too). A statement '..UptoSaid' is the law's where the arguments, and the package variables that the reading takes, are together of bulk at most 1048576: NARROWER than '..Said'. Prove '..Said' where nothing that the law and all that it calls make is longer than what came in: it says more and counts as full. Else prove '..UptoSaid'. A law counts once. -/
mutual
def uptoBulk {H : Type} : DataW H → Nat
  | .lit (.string bytes) => bytes.length + 1
  | .lit _ => 1
  | .nil => 1
  | .ptr d => uptoBulk d + 1
  | .slice elems spare => uptoBulkAll elems + uptoBulkAll spare + 1
  | .agg parts => uptoBulkAll parts + 1
  | .iface _ d => uptoBulk d + 1
  | .map entries => uptoBulkEntries entries + 1
  | .held _ => 1
def uptoBulkAll {H : Type} : List (DataW H) → Nat
  | [] => 0
  | d :: r => uptoBulk d + uptoBulkAll r
def uptoBulkEntries {H : Type} : List (Lit × DataW H) → Nat
  | [] => 0
  | x :: r => uptoBulkEntry x + uptoBulkEntries r
def uptoBulkEntry {H : Type} : Lit × DataW H → Nat
  | (.string bytes, d) => bytes.length + uptoBulk d + 1
  | (_, d) => uptoBulk d + 1
 end
def uptoSmall : (H : Type) → List (DataW H) → Bool := fun _ ds => decide (uptoBulkAll ds ≤ 1048576)
def OpenSpec.upto (s : _root_.Go.ChangeSpec) : _root_.Go.OpenSpec := { _root_.Go.OpenSpec.ofChange s with cond := some uptoSmall }

/-- 'laws.FnExactFits', WHERE WHAT IT READS IS OF BULK AT MOST 1048576: true; the input reads as it did. -/
def fnExactFitsUptoRow : OpenClaim := { program := "ytajadnlejdpceaa", sum := "596b36b1fb430fce6b8394f98a4da22852926ebca2b9357fed93e12dc1764631", func := "loop.example/g00326/laws.FnExactFits", spec := "fnExactFits", apart := false, narrowed := true }
def FnExactFitsUptoSaid : Prop := fnExactFitsUptoRow.holds Try.pinned (OpenSpec.upto fnExactFitsSpec)

/-- 'laws.FnBridges', WHERE WHAT IT READS IS OF BULK AT MOST 1048576: true; the input reads as it did. -/
def fnBridgesUptoRow : OpenClaim := { program := "ytajadnlejdpceaa", sum := "596b36b1fb430fce6b8394f98a4da22852926ebca2b9357fed93e12dc1764631", func := "loop.example/g00326/laws.FnBridges", spec := "fnBridges", apart := false, narrowed := true }
def FnBridgesUptoSaid : Prop := fnBridgesUptoRow.holds Try.pinned (OpenSpec.upto fnBridgesSpec)

/-- 'laws.FnNexts', WHERE WHAT IT READS IS OF BULK AT MOST 1048576: true; the input reads as it did. -/
def fnNextsUptoRow : OpenClaim := { program := "ytajadnlejdpceaa", sum := "596b36b1fb430fce6b8394f98a4da22852926ebca2b9357fed93e12dc1764631", func := "loop.example/g00326/laws.FnNexts", spec := "fnNexts", apart := false, narrowed := true }
def FnNextsUptoSaid : Prop := fnNextsUptoRow.holds Try.pinned (OpenSpec.upto fnNextsSpec)

/-- 'laws.FnTrueWays', WHERE WHAT IT READS IS OF BULK AT MOST 1048576: true; the input reads as it did. -/
def fnTrueWaysUptoRow : OpenClaim := { program := "ytajadnlejdpceaa", sum := "596b36b1fb430fce6b8394f98a4da22852926ebca2b9357fed93e12dc1764631", func := "loop.example/g00326/laws.FnTrueWays", spec := "fnTrueWays", unfollowed := true, recurses := true, apart := false, narrowed := true }
def FnTrueWaysUptoSaid : Prop := fnTrueWaysUptoRow.holds Try.pinned (OpenSpec.upto fnTrueWaysSpec)

/-- 'laws.FnSettles', WHERE WHAT IT READS IS OF BULK AT MOST 1048576: true; the input reads as it did. -/
def fnSettlesUptoRow : OpenClaim := { program := "ytajadnlejdpceaa", sum := "596b36b1fb430fce6b8394f98a4da22852926ebca2b9357fed93e12dc1764631", func := "loop.example/g00326/laws.FnSettles", spec := "fnSettles", apart := false, narrowed := true }
def FnSettlesUptoSaid : Prop := fnSettlesUptoRow.holds Try.pinned (OpenSpec.upto fnSettlesSpec)

end Rows
end Go.Proofs.Ytajadnlejdpceaa
