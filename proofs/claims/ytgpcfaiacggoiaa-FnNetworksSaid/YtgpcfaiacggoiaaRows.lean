/-
  No cell of these rows narrows 'for every input' (looked for: loops, veiled, ifaces, maps, wideKeys, modest, calm, conditions, laid).
  DERIVED. THE GIVEN ROWS OF THIS SEAT. 12 by the template 'for every input the law returns true; each argument reads behind the call as it read before'; 0 by the template 'total and deterministic' (their statements: YtgpcfaiacggoiaaTotals.lean).
  GIVEN WITH THE SEED: the statements are not yours to turn. If you find one false, say at which input.
  Laid BY PROGRAM, IN A SANDBOX (cutbox-rows.mjs): the forced cells as the released guide's own fill.sh prints them over the translation 0670957bf1def593… (all of the seat's roots in one cut). By AI agents, Wed Nov 11 2026. No macro, syntax, notation, axiom, sorry.
-/
import Derived.Test.YtgpcfaiacggoiaaChecked
import GoSem.Claim
import GoSem.ClaimJoined
import GoSem.ClaimMapViews
import Derived.JoinedTies
import Derived.KernelRfl
namespace Go.Proofs.Ytgpcfaiacggoiaa
/- THE CELL 'sum', in the pinned program and in every row, IS THE sha256 OF THE DUMP (.gsa) THAT YtgpcfaiacggoiaaProg.lean LOADS. Nothing in Lean hashes anything: it is a label: what it is worth is what the hold of that sum in a sandbox is worth. -/
noncomputable def Try.pinned : Pinned := { name := "ytgpcfaiacggoiaa", sum := "0670957bf1def59306d97c8f55422f035c9a97e38f9e573ddf4861956dc7b12c", checked := Try.checked }
namespace Rows
def none {H : Type} : Left H := { results := [], args := [] }

/-- 'laws.FnExactSetPvid': WHATEVER THE INPUT: true; the input reads as it did. -/
def fnExactSetPvidSpec : ChangeSpec := { name := "fnExactSetPvid", fn := fun _ => fun
  | [d1, d2, d3] => { results := [.lit (.bool true)], args := [d1, d2, d3] }
  | _ => none }
def fnExactSetPvidRow : OpenClaim := { program := "ytgpcfaiacggoiaa", sum := "0670957bf1def59306d97c8f55422f035c9a97e38f9e573ddf4861956dc7b12c", func := "loop.example/g00326/laws.FnExactSetPvid", spec := "fnExactSetPvid", apart := false }
def FnExactSetPvidSaid : Prop := fnExactSetPvidRow.holds Try.pinned (OpenSpec.ofChange fnExactSetPvidSpec)

/-- ITS FALSE NEIGHBOUR: 'it returns false'. Refute it at one input. -/
def fnExactSetPvidWrong : ChangeSpec := { name := "fnExactSetPvid", fn := fun _ => fun
  | [d1, d2, d3] => { results := [.lit (.bool false)], args := [d1, d2, d3] }
  | _ => none }
def FnExactSetPvidWrongFalsely : Prop := fnExactSetPvidRow.holds Try.pinned (OpenSpec.ofChange fnExactSetPvidWrong)

/-- 'laws.FnRolesBent': WHATEVER THE INPUT: true; the input reads as it did. -/
def fnRolesBentSpec : ChangeSpec := { name := "fnRolesBent", fn := fun _ => fun
  | [d] => { results := [.lit (.bool true)], args := [d] }
  | _ => none }
def fnRolesBentRow : OpenClaim := { program := "ytgpcfaiacggoiaa", sum := "0670957bf1def59306d97c8f55422f035c9a97e38f9e573ddf4861956dc7b12c", func := "loop.example/g00326/laws.FnRolesBent", spec := "fnRolesBent", apart := false }
def FnRolesBentSaid : Prop := fnRolesBentRow.holds Try.pinned (OpenSpec.ofChange fnRolesBentSpec)

/-- ITS FALSE NEIGHBOUR: 'it returns false'. Refute it at one input. -/
def fnRolesBentWrong : ChangeSpec := { name := "fnRolesBent", fn := fun _ => fun
  | [d] => { results := [.lit (.bool false)], args := [d] }
  | _ => none }
def FnRolesBentWrongFalsely : Prop := fnRolesBentRow.holds Try.pinned (OpenSpec.ofChange fnRolesBentWrong)

/-- 'laws.FnExactDropRow': WHATEVER THE INPUT: true; the input reads as it did. -/
def fnExactDropRowSpec : ChangeSpec := { name := "fnExactDropRow", fn := fun _ => fun
  | [d1, d2] => { results := [.lit (.bool true)], args := [d1, d2] }
  | _ => none }
def fnExactDropRowRow : OpenClaim := { program := "ytgpcfaiacggoiaa", sum := "0670957bf1def59306d97c8f55422f035c9a97e38f9e573ddf4861956dc7b12c", func := "loop.example/g00326/laws.FnExactDropRow", spec := "fnExactDropRow", apart := false }
def FnExactDropRowSaid : Prop := fnExactDropRowRow.holds Try.pinned (OpenSpec.ofChange fnExactDropRowSpec)

/-- ITS FALSE NEIGHBOUR: 'it returns false'. Refute it at one input. -/
def fnExactDropRowWrong : ChangeSpec := { name := "fnExactDropRow", fn := fun _ => fun
  | [d1, d2] => { results := [.lit (.bool false)], args := [d1, d2] }
  | _ => none }
def FnExactDropRowWrongFalsely : Prop := fnExactDropRowRow.holds Try.pinned (OpenSpec.ofChange fnExactDropRowWrong)

/-- 'laws.FnNetworks': WHATEVER THE INPUT: true; the input reads as it did. -/
def fnNetworksSpec : ChangeSpec := { name := "fnNetworks", fn := fun _ => fun
  | [d] => { results := [.lit (.bool true)], args := [d] }
  | _ => none }
def fnNetworksRow : OpenClaim := { program := "ytgpcfaiacggoiaa", sum := "0670957bf1def59306d97c8f55422f035c9a97e38f9e573ddf4861956dc7b12c", func := "loop.example/g00326/laws.FnNetworks", spec := "fnNetworks", apart := false }
def FnNetworksSaid : Prop := fnNetworksRow.holds Try.pinned (OpenSpec.ofChange fnNetworksSpec)

/-- ITS FALSE NEIGHBOUR: 'it returns false'. Refute it at one input. -/
def fnNetworksWrong : ChangeSpec := { name := "fnNetworks", fn := fun _ => fun
  | [d] => { results := [.lit (.bool false)], args := [d] }
  | _ => none }
def FnNetworksWrongFalsely : Prop := fnNetworksRow.holds Try.pinned (OpenSpec.ofChange fnNetworksWrong)

/-- 'laws.FnExactPutRow': WHATEVER THE INPUT: true; the input reads as it did. -/
def fnExactPutRowSpec : ChangeSpec := { name := "fnExactPutRow", fn := fun _ => fun
  | [d1, d2] => { results := [.lit (.bool true)], args := [d1, d2] }
  | _ => none }
def fnExactPutRowRow : OpenClaim := { program := "ytgpcfaiacggoiaa", sum := "0670957bf1def59306d97c8f55422f035c9a97e38f9e573ddf4861956dc7b12c", func := "loop.example/g00326/laws.FnExactPutRow", spec := "fnExactPutRow", apart := false }
def FnExactPutRowSaid : Prop := fnExactPutRowRow.holds Try.pinned (OpenSpec.ofChange fnExactPutRowSpec)

/-- ITS FALSE NEIGHBOUR: 'it returns false'. Refute it at one input. -/
def fnExactPutRowWrong : ChangeSpec := { name := "fnExactPutRow", fn := fun _ => fun
  | [d1, d2] => { results := [.lit (.bool false)], args := [d1, d2] }
  | _ => none }
def FnExactPutRowWrongFalsely : Prop := fnExactPutRowRow.holds Try.pinned (OpenSpec.ofChange fnExactPutRowWrong)

/-- 'laws.FnNetworksBent': WHATEVER THE INPUT: true; the input reads as it did. -/
def fnNetworksBentSpec : ChangeSpec := { name := "fnNetworksBent", fn := fun _ => fun
  | [d] => { results := [.lit (.bool true)], args := [d] }
  | _ => none }
def fnNetworksBentRow : OpenClaim := { program := "ytgpcfaiacggoiaa", sum := "0670957bf1def59306d97c8f55422f035c9a97e38f9e573ddf4861956dc7b12c", func := "loop.example/g00326/laws.FnNetworksBent", spec := "fnNetworksBent", apart := false }
def FnNetworksBentSaid : Prop := fnNetworksBentRow.holds Try.pinned (OpenSpec.ofChange fnNetworksBentSpec)

/-- ITS FALSE NEIGHBOUR: 'it returns false'. Refute it at one input. -/
def fnNetworksBentWrong : ChangeSpec := { name := "fnNetworksBent", fn := fun _ => fun
  | [d] => { results := [.lit (.bool false)], args := [d] }
  | _ => none }
def FnNetworksBentWrongFalsely : Prop := fnNetworksBentRow.holds Try.pinned (OpenSpec.ofChange fnNetworksBentWrong)

/-- 'laws.FnExactSameBridge': WHATEVER THE INPUT: true; the input reads as it did. -/
def fnExactSameBridgeSpec : ChangeSpec := { name := "fnExactSameBridge", fn := fun _ => fun
  | [d1, d2] => { results := [.lit (.bool true)], args := [d1, d2] }
  | _ => none }
def fnExactSameBridgeRow : OpenClaim := { program := "ytgpcfaiacggoiaa", sum := "0670957bf1def59306d97c8f55422f035c9a97e38f9e573ddf4861956dc7b12c", func := "loop.example/g00326/laws.FnExactSameBridge", spec := "fnExactSameBridge", apart := false }
def FnExactSameBridgeSaid : Prop := fnExactSameBridgeRow.holds Try.pinned (OpenSpec.ofChange fnExactSameBridgeSpec)

/-- ITS FALSE NEIGHBOUR: 'it returns false'. Refute it at one input. -/
def fnExactSameBridgeWrong : ChangeSpec := { name := "fnExactSameBridge", fn := fun _ => fun
  | [d1, d2] => { results := [.lit (.bool false)], args := [d1, d2] }
  | _ => none }
def FnExactSameBridgeWrongFalsely : Prop := fnExactSameBridgeRow.holds Try.pinned (OpenSpec.ofChange fnExactSameBridgeWrong)

/-- 'laws.FnExactBridgeNew': WHATEVER THE INPUT: true; the input reads as it did. -/
def fnExactBridgeNewSpec : ChangeSpec := { name := "fnExactBridgeNew", fn := fun _ => fun
  | [d1, d2] => { results := [.lit (.bool true)], args := [d1, d2] }
  | _ => none }
def fnExactBridgeNewRow : OpenClaim := { program := "ytgpcfaiacggoiaa", sum := "0670957bf1def59306d97c8f55422f035c9a97e38f9e573ddf4861956dc7b12c", func := "loop.example/g00326/laws.FnExactBridgeNew", spec := "fnExactBridgeNew", apart := false }
def FnExactBridgeNewSaid : Prop := fnExactBridgeNewRow.holds Try.pinned (OpenSpec.ofChange fnExactBridgeNewSpec)

/-- ITS FALSE NEIGHBOUR: 'it returns false'. Refute it at one input. -/
def fnExactBridgeNewWrong : ChangeSpec := { name := "fnExactBridgeNew", fn := fun _ => fun
  | [d1, d2] => { results := [.lit (.bool false)], args := [d1, d2] }
  | _ => none }
def FnExactBridgeNewWrongFalsely : Prop := fnExactBridgeNewRow.holds Try.pinned (OpenSpec.ofChange fnExactBridgeNewWrong)

/-- 'laws.FnExactBridgeOk': WHATEVER THE INPUT: true; the input reads as it did. -/
def fnExactBridgeOkSpec : ChangeSpec := { name := "fnExactBridgeOk", fn := fun _ => fun
  | [d] => { results := [.lit (.bool true)], args := [d] }
  | _ => none }
def fnExactBridgeOkRow : OpenClaim := { program := "ytgpcfaiacggoiaa", sum := "0670957bf1def59306d97c8f55422f035c9a97e38f9e573ddf4861956dc7b12c", func := "loop.example/g00326/laws.FnExactBridgeOk", spec := "fnExactBridgeOk", apart := false }
def FnExactBridgeOkSaid : Prop := fnExactBridgeOkRow.holds Try.pinned (OpenSpec.ofChange fnExactBridgeOkSpec)

/-- ITS FALSE NEIGHBOUR: 'it returns false'. Refute it at one input. -/
def fnExactBridgeOkWrong : ChangeSpec := { name := "fnExactBridgeOk", fn := fun _ => fun
  | [d] => { results := [.lit (.bool false)], args := [d] }
  | _ => none }
def FnExactBridgeOkWrongFalsely : Prop := fnExactBridgeOkRow.holds Try.pinned (OpenSpec.ofChange fnExactBridgeOkWrong)

/-- 'laws.FnExactFits': WHATEVER THE INPUT: true; the input reads as it did. -/
def fnExactFitsSpec : ChangeSpec := { name := "fnExactFits", fn := fun _ => fun
  | [d] => { results := [.lit (.bool true)], args := [d] }
  | _ => none }
def fnExactFitsRow : OpenClaim := { program := "ytgpcfaiacggoiaa", sum := "0670957bf1def59306d97c8f55422f035c9a97e38f9e573ddf4861956dc7b12c", func := "loop.example/g00326/laws.FnExactFits", spec := "fnExactFits", apart := false }
def FnExactFitsSaid : Prop := fnExactFitsRow.holds Try.pinned (OpenSpec.ofChange fnExactFitsSpec)

/-- ITS FALSE NEIGHBOUR: 'it returns false'. Refute it at one input. -/
def fnExactFitsWrong : ChangeSpec := { name := "fnExactFits", fn := fun _ => fun
  | [d] => { results := [.lit (.bool false)], args := [d] }
  | _ => none }
def FnExactFitsWrongFalsely : Prop := fnExactFitsRow.holds Try.pinned (OpenSpec.ofChange fnExactFitsWrong)

/-- 'laws.FnExactBeside': WHATEVER THE INPUT: true; the input reads as it did. -/
def fnExactBesideSpec : ChangeSpec := { name := "fnExactBeside", fn := fun _ => fun
  | [d1, d2, d3] => { results := [.lit (.bool true)], args := [d1, d2, d3] }
  | _ => none }
def fnExactBesideRow : OpenClaim := { program := "ytgpcfaiacggoiaa", sum := "0670957bf1def59306d97c8f55422f035c9a97e38f9e573ddf4861956dc7b12c", func := "loop.example/g00326/laws.FnExactBeside", spec := "fnExactBeside", apart := false }
def FnExactBesideSaid : Prop := fnExactBesideRow.holds Try.pinned (OpenSpec.ofChange fnExactBesideSpec)

/-- ITS FALSE NEIGHBOUR: 'it returns false'. Refute it at one input. -/
def fnExactBesideWrong : ChangeSpec := { name := "fnExactBeside", fn := fun _ => fun
  | [d1, d2, d3] => { results := [.lit (.bool false)], args := [d1, d2, d3] }
  | _ => none }
def FnExactBesideWrongFalsely : Prop := fnExactBesideRow.holds Try.pinned (OpenSpec.ofChange fnExactBesideWrong)

/-- 'laws.FnExactLinkUp': WHATEVER THE INPUT: true; the input reads as it did. -/
def fnExactLinkUpSpec : ChangeSpec := { name := "fnExactLinkUp", fn := fun _ => fun
  | [d1, d2] => { results := [.lit (.bool true)], args := [d1, d2] }
  | _ => none }
def fnExactLinkUpRow : OpenClaim := { program := "ytgpcfaiacggoiaa", sum := "0670957bf1def59306d97c8f55422f035c9a97e38f9e573ddf4861956dc7b12c", func := "loop.example/g00326/laws.FnExactLinkUp", spec := "fnExactLinkUp", apart := false }
def FnExactLinkUpSaid : Prop := fnExactLinkUpRow.holds Try.pinned (OpenSpec.ofChange fnExactLinkUpSpec)

/-- ITS FALSE NEIGHBOUR: 'it returns false'. Refute it at one input. -/
def fnExactLinkUpWrong : ChangeSpec := { name := "fnExactLinkUp", fn := fun _ => fun
  | [d1, d2] => { results := [.lit (.bool false)], args := [d1, d2] }
  | _ => none }
def FnExactLinkUpWrongFalsely : Prop := fnExactLinkUpRow.holds Try.pinned (OpenSpec.ofChange fnExactLinkUpWrong)

/- THE SECOND FORM. 'bulk': how many values and letters a reading holds, each counted each time it is reached (what is shared counts as often as it is met; a slice's spare places count too). A statement '..UptoSaid' is the law's where the arguments, and the package variables that the reading takes, are together of bulk at most 1048576: NARROWER than '..Said'. Prove '..Said' where nothing that the law and all that it calls make is longer than what came in: it says more and counts as full. Else prove '..UptoSaid'. A law counts once. -/
mutual
def uptoBulk {H : Type} : DataW H → Nat
  | .lit (.string bytes) => bytes.length + 1
  | .lit _ => 1
  | .nil => 1
  | .ptr d => uptoBulk d + 1
  | .slice elems spare => uptoBulkAll elems + uptoBulkAll spare + 1
  | .agg parts => uptoBulkAll parts + 1
  | .iface _ d => uptoBulk d + 1
  | .map entries => uptoBulkEntries entries + 1
  | .held _ => 1
def uptoBulkAll {H : Type} : List (DataW H) → Nat
  | [] => 0
  | d :: r => uptoBulk d + uptoBulkAll r
def uptoBulkEntries {H : Type} : List (Lit × DataW H) → Nat
  | [] => 0
  | x :: r => uptoBulkEntry x + uptoBulkEntries r
def uptoBulkEntry {H : Type} : Lit × DataW H → Nat
  | (.string bytes, d) => bytes.length + uptoBulk d + 1
  | (_, d) => uptoBulk d + 1
 end
def uptoSmall : (H : Type) → List (DataW H) → Bool := fun _ ds => decide (uptoBulkAll ds ≤ 1048576)
def OpenSpec.upto (s : _root_.Go.ChangeSpec) : _root_.Go.OpenSpec := { _root_.Go.OpenSpec.ofChange s with cond := some uptoSmall }

/-- 'laws.FnExactSetPvid', WHERE WHAT IT READS IS OF BULK AT MOST 1048576: true; the input reads as it did. -/
def fnExactSetPvidUptoRow : OpenClaim := { program := "ytgpcfaiacggoiaa", sum := "0670957bf1def59306d97c8f55422f035c9a97e38f9e573ddf4861956dc7b12c", func := "loop.example/g00326/laws.FnExactSetPvid", spec := "fnExactSetPvid", apart := false, narrowed := true }
def FnExactSetPvidUptoSaid : Prop := fnExactSetPvidUptoRow.holds Try.pinned (OpenSpec.upto fnExactSetPvidSpec)

/-- 'laws.FnRolesBent', WHERE WHAT IT READS IS OF BULK AT MOST 1048576: true; the input reads as it did. -/
def fnRolesBentUptoRow : OpenClaim := { program := "ytgpcfaiacggoiaa", sum := "0670957bf1def59306d97c8f55422f035c9a97e38f9e573ddf4861956dc7b12c", func := "loop.example/g00326/laws.FnRolesBent", spec := "fnRolesBent", apart := false, narrowed := true }
def FnRolesBentUptoSaid : Prop := fnRolesBentUptoRow.holds Try.pinned (OpenSpec.upto fnRolesBentSpec)

/-- 'laws.FnExactDropRow', WHERE WHAT IT READS IS OF BULK AT MOST 1048576: true; the input reads as it did. -/
def fnExactDropRowUptoRow : OpenClaim := { program := "ytgpcfaiacggoiaa", sum := "0670957bf1def59306d97c8f55422f035c9a97e38f9e573ddf4861956dc7b12c", func := "loop.example/g00326/laws.FnExactDropRow", spec := "fnExactDropRow", apart := false, narrowed := true }
def FnExactDropRowUptoSaid : Prop := fnExactDropRowUptoRow.holds Try.pinned (OpenSpec.upto fnExactDropRowSpec)

/-- 'laws.FnNetworks', WHERE WHAT IT READS IS OF BULK AT MOST 1048576: true; the input reads as it did. -/
def fnNetworksUptoRow : OpenClaim := { program := "ytgpcfaiacggoiaa", sum := "0670957bf1def59306d97c8f55422f035c9a97e38f9e573ddf4861956dc7b12c", func := "loop.example/g00326/laws.FnNetworks", spec := "fnNetworks", apart := false, narrowed := true }
def FnNetworksUptoSaid : Prop := fnNetworksUptoRow.holds Try.pinned (OpenSpec.upto fnNetworksSpec)

/-- 'laws.FnExactPutRow', WHERE WHAT IT READS IS OF BULK AT MOST 1048576: true; the input reads as it did. -/
def fnExactPutRowUptoRow : OpenClaim := { program := "ytgpcfaiacggoiaa", sum := "0670957bf1def59306d97c8f55422f035c9a97e38f9e573ddf4861956dc7b12c", func := "loop.example/g00326/laws.FnExactPutRow", spec := "fnExactPutRow", apart := false, narrowed := true }
def FnExactPutRowUptoSaid : Prop := fnExactPutRowUptoRow.holds Try.pinned (OpenSpec.upto fnExactPutRowSpec)

/-- 'laws.FnNetworksBent', WHERE WHAT IT READS IS OF BULK AT MOST 1048576: true; the input reads as it did. -/
def fnNetworksBentUptoRow : OpenClaim := { program := "ytgpcfaiacggoiaa", sum := "0670957bf1def59306d97c8f55422f035c9a97e38f9e573ddf4861956dc7b12c", func := "loop.example/g00326/laws.FnNetworksBent", spec := "fnNetworksBent", apart := false, narrowed := true }
def FnNetworksBentUptoSaid : Prop := fnNetworksBentUptoRow.holds Try.pinned (OpenSpec.upto fnNetworksBentSpec)

/-- 'laws.FnExactSameBridge', WHERE WHAT IT READS IS OF BULK AT MOST 1048576: true; the input reads as it did. -/
def fnExactSameBridgeUptoRow : OpenClaim := { program := "ytgpcfaiacggoiaa", sum := "0670957bf1def59306d97c8f55422f035c9a97e38f9e573ddf4861956dc7b12c", func := "loop.example/g00326/laws.FnExactSameBridge", spec := "fnExactSameBridge", apart := false, narrowed := true }
def FnExactSameBridgeUptoSaid : Prop := fnExactSameBridgeUptoRow.holds Try.pinned (OpenSpec.upto fnExactSameBridgeSpec)

/-- 'laws.FnExactBridgeNew', WHERE WHAT IT READS IS OF BULK AT MOST 1048576: true; the input reads as it did. -/
def fnExactBridgeNewUptoRow : OpenClaim := { program := "ytgpcfaiacggoiaa", sum := "0670957bf1def59306d97c8f55422f035c9a97e38f9e573ddf4861956dc7b12c", func := "loop.example/g00326/laws.FnExactBridgeNew", spec := "fnExactBridgeNew", apart := false, narrowed := true }
def FnExactBridgeNewUptoSaid : Prop := fnExactBridgeNewUptoRow.holds Try.pinned (OpenSpec.upto fnExactBridgeNewSpec)

/-- 'laws.FnExactBridgeOk', WHERE WHAT IT READS IS OF BULK AT MOST 1048576: true; the input reads as it did. -/
def fnExactBridgeOkUptoRow : OpenClaim := { program := "ytgpcfaiacggoiaa", sum := "0670957bf1def59306d97c8f55422f035c9a97e38f9e573ddf4861956dc7b12c", func := "loop.example/g00326/laws.FnExactBridgeOk", spec := "fnExactBridgeOk", apart := false, narrowed := true }
def FnExactBridgeOkUptoSaid : Prop := fnExactBridgeOkUptoRow.holds Try.pinned (OpenSpec.upto fnExactBridgeOkSpec)

/-- 'laws.FnExactFits', WHERE WHAT IT READS IS OF BULK AT MOST 1048576: true; the input reads as it did. -/
def fnExactFitsUptoRow : OpenClaim := { program := "ytgpcfaiacggoiaa", sum := "0670957bf1def59306d97c8f55422f035c9a97e38f9e573ddf4861956dc7b12c", func := "loop.example/g00326/laws.FnExactFits", spec := "fnExactFits", apart := false, narrowed := true }
def FnExactFitsUptoSaid : Prop := fnExactFitsUptoRow.holds Try.pinned (OpenSpec.upto fnExactFitsSpec)

/-- 'laws.FnExactBeside', WHERE WHAT IT READS IS OF BULK AT MOST 1048576: true; the input reads as it did. -/
def fnExactBesideUptoRow : OpenClaim := { program := "ytgpcfaiacggoiaa", sum := "0670957bf1def59306d97c8f55422f035c9a97e38f9e573ddf4861956dc7b12c", func := "loop.example/g00326/laws.FnExactBeside", spec := "fnExactBeside", apart := false, narrowed := true }
def FnExactBesideUptoSaid : Prop := fnExactBesideUptoRow.holds Try.pinned (OpenSpec.upto fnExactBesideSpec)

/-- 'laws.FnExactLinkUp', WHERE WHAT IT READS IS OF BULK AT MOST 1048576: true; the input reads as it did. -/
def fnExactLinkUpUptoRow : OpenClaim := { program := "ytgpcfaiacggoiaa", sum := "0670957bf1def59306d97c8f55422f035c9a97e38f9e573ddf4861956dc7b12c", func := "loop.example/g00326/laws.FnExactLinkUp", spec := "fnExactLinkUp", apart := false, narrowed := true }
def FnExactLinkUpUptoSaid : Prop := fnExactLinkUpUptoRow.holds Try.pinned (OpenSpec.upto fnExactLinkUpSpec)

end Rows
end Go.Proofs.Ytgpcfaiacggoiaa
