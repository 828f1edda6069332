/-
  No cell of these rows narrows 'for every input' (looked for: loops, veiled, ifaces, maps, wideKeys, modest, calm, conditions, laid).
  DERIVED. THE GIVEN ROWS OF THIS SEAT. 6 by the template 'for every input the law returns true; each argument reads behind the call as it read before'; 0 by the template 'total and deterministic' (their statements: YtcegokjpmppdbaaTotals.lean).
  GIVEN WITH THE SEED: the statements are not yours to turn. If you find one false, say at which input.
  Laid BY PROGRAM, IN A SANDBOX (cutbox-rows.mjs): the forced cells as the released guide's own fill.sh prints them over the translation abe75bcf511ea39b… (all of the seat's roots in one cut). By AI agents, Wed Nov 11 2026. No macro, syntax, notation, axiom, sorry.
-/
import Derived.Test.YtcegokjpmppdbaaChecked
import GoSem.Claim
import GoSem.ClaimJoined
import GoSem.ClaimMapViews
import Derived.JoinedTies
import Derived.KernelRfl
namespace Go.Proofs.Ytcegokjpmppdbaa
/- THE CELL 'sum', in the pinned program and in every row, IS THE sha256 OF THE DUMP (.gsa) THAT YtcegokjpmppdbaaProg.lean LOADS. Nothing in Lean hashes anything: it is a label: what it is worth is what the hold of that sum in a sandbox is worth. -/
noncomputable def Try.pinned : Pinned := { name := "ytcegokjpmppdbaa", sum := "abe75bcf511ea39b2fa5e64c9072ae5447c0569abcfe11a2c666f78e32294e9b", checked := Try.checked }
namespace Rows
def none {H : Type} : Left H := { results := [], args := [] }

/-- 'laws.FnBridges': WHATEVER THE INPUT: true; the input reads as it did. -/
def fnBridgesSpec : ChangeSpec := { name := "fnBridges", fn := fun _ => fun
  | [d] => { results := [.lit (.bool true)], args := [d] }
  | _ => none }
def fnBridgesRow : OpenClaim := { program := "ytcegokjpmppdbaa", sum := "abe75bcf511ea39b2fa5e64c9072ae5447c0569abcfe11a2c666f78e32294e9b", func := "loop.example/g00326/laws.FnBridges", spec := "fnBridges", apart := false }
def FnBridgesSaid : Prop := fnBridgesRow.holds Try.pinned (OpenSpec.ofChange fnBridgesSpec)

/-- ITS FALSE NEIGHBOUR: 'it returns false'. Refute it at one input. -/
def fnBridgesWrong : ChangeSpec := { name := "fnBridges", fn := fun _ => fun
  | [d] => { results := [.lit (.bool false)], args := [d] }
  | _ => none }
def FnBridgesWrongFalsely : Prop := fnBridgesRow.holds Try.pinned (OpenSpec.ofChange fnBridgesWrong)

/-- 'laws.FnAnswered': WHATEVER THE INPUT: true; the input reads as it did. -/
def fnAnsweredSpec : ChangeSpec := { name := "fnAnswered", fn := fun _ => fun
  | [d] => { results := [.lit (.bool true)], args := [d] }
  | _ => none }
def fnAnsweredRow : OpenClaim := { program := "ytcegokjpmppdbaa", sum := "abe75bcf511ea39b2fa5e64c9072ae5447c0569abcfe11a2c666f78e32294e9b", func := "loop.example/g00326/laws.FnAnswered", spec := "fnAnswered", apart := false }
def FnAnsweredSaid : Prop := fnAnsweredRow.holds Try.pinned (OpenSpec.ofChange fnAnsweredSpec)

/-- ITS FALSE NEIGHBOUR: 'it returns false'. Refute it at one input. -/
def fnAnsweredWrong : ChangeSpec := { name := "fnAnswered", fn := fun _ => fun
  | [d] => { results := [.lit (.bool false)], args := [d] }
  | _ => none }
def FnAnsweredWrongFalsely : Prop := fnAnsweredRow.holds Try.pinned (OpenSpec.ofChange fnAnsweredWrong)

/-- 'laws.FnCutJoined': WHATEVER THE INPUT: true; the input reads as it did. -/
def fnCutJoinedSpec : ChangeSpec := { name := "fnCutJoined", fn := fun _ => fun
  | [d] => { results := [.lit (.bool true)], args := [d] }
  | _ => none }
def fnCutJoinedRow : OpenClaim := { program := "ytcegokjpmppdbaa", sum := "abe75bcf511ea39b2fa5e64c9072ae5447c0569abcfe11a2c666f78e32294e9b", func := "loop.example/g00326/laws.FnCutJoined", spec := "fnCutJoined", apart := false }
def FnCutJoinedSaid : Prop := fnCutJoinedRow.holds Try.pinned (OpenSpec.ofChange fnCutJoinedSpec)

/-- ITS FALSE NEIGHBOUR: 'it returns false'. Refute it at one input. -/
def fnCutJoinedWrong : ChangeSpec := { name := "fnCutJoined", fn := fun _ => fun
  | [d] => { results := [.lit (.bool false)], args := [d] }
  | _ => none }
def FnCutJoinedWrongFalsely : Prop := fnCutJoinedRow.holds Try.pinned (OpenSpec.ofChange fnCutJoinedWrong)

/-- 'laws.FnNetworksBent': WHATEVER THE INPUT: true; the input reads as it did. -/
def fnNetworksBentSpec : ChangeSpec := { name := "fnNetworksBent", fn := fun _ => fun
  | [d] => { results := [.lit (.bool true)], args := [d] }
  | _ => none }
def fnNetworksBentRow : OpenClaim := { program := "ytcegokjpmppdbaa", sum := "abe75bcf511ea39b2fa5e64c9072ae5447c0569abcfe11a2c666f78e32294e9b", func := "loop.example/g00326/laws.FnNetworksBent", spec := "fnNetworksBent", apart := false }
def FnNetworksBentSaid : Prop := fnNetworksBentRow.holds Try.pinned (OpenSpec.ofChange fnNetworksBentSpec)

/-- ITS FALSE NEIGHBOUR: 'it returns false'. Refute it at one input. -/
def fnNetworksBentWrong : ChangeSpec := { name := "fnNetworksBent", fn := fun _ => fun
  | [d] => { results := [.lit (.bool false)], args := [d] }
  | _ => none }
def FnNetworksBentWrongFalsely : Prop := fnNetworksBentRow.holds Try.pinned (OpenSpec.ofChange fnNetworksBentWrong)

/-- 'laws.FnTrueWays': WHATEVER THE INPUT: true; the input reads as it did. -/
def fnTrueWaysSpec : ChangeSpec := { name := "fnTrueWays", fn := fun _ => fun
  | [d] => { results := [.lit (.bool true)], args := [d] }
  | _ => none }
def fnTrueWaysRow : OpenClaim := { program := "ytcegokjpmppdbaa", sum := "abe75bcf511ea39b2fa5e64c9072ae5447c0569abcfe11a2c666f78e32294e9b", func := "loop.example/g00326/laws.FnTrueWays", spec := "fnTrueWays", unfollowed := true, recurses := true, apart := false }
def FnTrueWaysSaid : Prop := fnTrueWaysRow.holds Try.pinned (OpenSpec.ofChange fnTrueWaysSpec)

/-- ITS FALSE NEIGHBOUR: 'it returns false'. Refute it at one input. -/
def fnTrueWaysWrong : ChangeSpec := { name := "fnTrueWays", fn := fun _ => fun
  | [d] => { results := [.lit (.bool false)], args := [d] }
  | _ => none }
def FnTrueWaysWrongFalsely : Prop := fnTrueWaysRow.holds Try.pinned (OpenSpec.ofChange fnTrueWaysWrong)

/-- 'laws.FnSettles': WHATEVER THE INPUT: true; the input reads as it did. -/
def fnSettlesSpec : ChangeSpec := { name := "fnSettles", fn := fun _ => fun
  | [d] => { results := [.lit (.bool true)], args := [d] }
  | _ => none }
def fnSettlesRow : OpenClaim := { program := "ytcegokjpmppdbaa", sum := "abe75bcf511ea39b2fa5e64c9072ae5447c0569abcfe11a2c666f78e32294e9b", func := "loop.example/g00326/laws.FnSettles", spec := "fnSettles", apart := false }
def FnSettlesSaid : Prop := fnSettlesRow.holds Try.pinned (OpenSpec.ofChange fnSettlesSpec)

/-- ITS FALSE NEIGHBOUR: 'it returns false'. Refute it at one input. -/
def fnSettlesWrong : ChangeSpec := { name := "fnSettles", fn := fun _ => fun
  | [d] => { results := [.lit (.bool false)], args := [d] }
  | _ => none }
def FnSettlesWrongFalsely : Prop := fnSettlesRow.holds Try.pinned (OpenSpec.ofChange fnSettlesWrong)

/- THE SECOND FORM. 'bulk': how many values and letters a reading holds, each counted each time it is reached (what is shared counts as often as it is met; a slice's spare places count too). A statement '..UptoSaid' is the law's where the arguments, and the package variables that the reading takes, are together of bulk at most 1048576: NARROWER than '..Said'. Prove '..Said' where nothing that the law and all that it calls make is longer than what came in: it says more and counts as full. Else prove '..UptoSaid'. A law counts once. -/
mutual
def uptoBulk {H : Type} : DataW H → Nat
  | .lit (.string bytes) => bytes.length + 1
  | .lit _ => 1
  | .nil => 1
  | .ptr d => uptoBulk d + 1
  | .slice elems spare => uptoBulkAll elems + uptoBulkAll spare + 1
  | .agg parts => uptoBulkAll parts + 1
  | .iface _ d => uptoBulk d + 1
  | .map entries => uptoBulkEntries entries + 1
  | .held _ => 1
def uptoBulkAll {H : Type} : List (DataW H) → Nat
  | [] => 0
  | d :: r => uptoBulk d + uptoBulkAll r
def uptoBulkEntries {H : Type} : List (Lit × DataW H) → Nat
  | [] => 0
  | x :: r => uptoBulkEntry x + uptoBulkEntries r
def uptoBulkEntry {H : Type} : Lit × DataW H → Nat
  | (.string bytes, d) => bytes.length + uptoBulk d + 1
  | (_, d) => uptoBulk d + 1
 end
def uptoSmall : (H : Type) → List (DataW H) → Bool := fun _ ds => decide (uptoBulkAll ds ≤ 1048576)
def OpenSpec.upto (s : _root_.Go.ChangeSpec) : _root_.Go.OpenSpec := { _root_.Go.OpenSpec.ofChange s with cond := some uptoSmall }

/-- 'laws.FnBridges', WHERE WHAT IT READS IS OF BULK AT MOST 1048576: true; the input reads as it did. -/
def fnBridgesUptoRow : OpenClaim := { program := "ytcegokjpmppdbaa", sum := "abe75bcf511ea39b2fa5e64c9072ae5447c0569abcfe11a2c666f78e32294e9b", func := "loop.example/g00326/laws.FnBridges", spec := "fnBridges", apart := false, narrowed := true }
def FnBridgesUptoSaid : Prop := fnBridgesUptoRow.holds Try.pinned (OpenSpec.upto fnBridgesSpec)

/-- 'laws.FnAnswered', WHERE WHAT IT READS IS OF BULK AT MOST 1048576: true; the input reads as it did. -/
def fnAnsweredUptoRow : OpenClaim := { program := "ytcegokjpmppdbaa", sum := "abe75bcf511ea39b2fa5e64c9072ae5447c0569abcfe11a2c666f78e32294e9b", func := "loop.example/g00326/laws.FnAnswered", spec := "fnAnswered", apart := false, narrowed := true }
def FnAnsweredUptoSaid : Prop := fnAnsweredUptoRow.holds Try.pinned (OpenSpec.upto fnAnsweredSpec)

/-- 'laws.FnCutJoined', WHERE WHAT IT READS IS OF BULK AT MOST 1048576: true; the input reads as it did. -/
def fnCutJoinedUptoRow : OpenClaim := { program := "ytcegokjpmppdbaa", sum := "abe75bcf511ea39b2fa5e64c9072ae5447c0569abcfe11a2c666f78e32294e9b", func := "loop.example/g00326/laws.FnCutJoined", spec := "fnCutJoined", apart := false, narrowed := true }
def FnCutJoinedUptoSaid : Prop := fnCutJoinedUptoRow.holds Try.pinned (OpenSpec.upto fnCutJoinedSpec)

/-- 'laws.FnNetworksBent', WHERE WHAT IT READS IS OF BULK AT MOST 1048576: true; the input reads as it did. -/
def fnNetworksBentUptoRow : OpenClaim := { program := "ytcegokjpmppdbaa", sum := "abe75bcf511ea39b2fa5e64c9072ae5447c0569abcfe11a2c666f78e32294e9b", func := "loop.example/g00326/laws.FnNetworksBent", spec := "fnNetworksBent", apart := false, narrowed := true }
def FnNetworksBentUptoSaid : Prop := fnNetworksBentUptoRow.holds Try.pinned (OpenSpec.upto fnNetworksBentSpec)

/-- 'laws.FnTrueWays', WHERE WHAT IT READS IS OF BULK AT MOST 1048576: true; the input reads as it did. -/
def fnTrueWaysUptoRow : OpenClaim := { program := "ytcegokjpmppdbaa", sum := "abe75bcf511ea39b2fa5e64c9072ae5447c0569abcfe11a2c666f78e32294e9b", func := "loop.example/g00326/laws.FnTrueWays", spec := "fnTrueWays", unfollowed := true, recurses := true, apart := false, narrowed := true }
def FnTrueWaysUptoSaid : Prop := fnTrueWaysUptoRow.holds Try.pinned (OpenSpec.upto fnTrueWaysSpec)

/-- 'laws.FnSettles', WHERE WHAT IT READS IS OF BULK AT MOST 1048576: true; the input reads as it did. -/
def fnSettlesUptoRow : OpenClaim := { program := "ytcegokjpmppdbaa", sum := "abe75bcf511ea39b2fa5e64c9072ae5447c0569abcfe11a2c666f78e32294e9b", func := "loop.example/g00326/laws.FnSettles", spec := "fnSettles", apart := false, narrowed := true }
def FnSettlesUptoSaid : Prop := fnSettlesUptoRow.holds Try.pinned (OpenSpec.upto fnSettlesSpec)

end Rows
end Go.Proofs.Ytcegokjpmppdbaa
