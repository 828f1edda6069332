/-
  No cell of these rows narrows 'for every input' (looked for: loops, veiled, ifaces, maps, wideKeys, modest, calm, conditions, laid).
  DERIVED. THE GIVEN ROWS OF THIS SEAT. 12 by the template 'for every input the law returns true; each argument reads behind the call as it read before'; 0 by the template 'total and deterministic' (their statements: YtjdedhklbdkeoaaTotals.lean).
  GIVEN WITH THE SEED: the statements are not yours to turn. If you find one false, say at which input.
  Laid BY PROGRAM, IN A SANDBOX (cutbox-rows.mjs): the forced cells as the released guide's own fill.sh prints them over the translation b1e7a7fb5bb8a163… (all of the seat's roots in one cut). By AI agents, Wed Nov 11 2026. No macro, syntax, notation, axiom, sorry.
-/
import Derived.Test.YtjdedhklbdkeoaaChecked
import GoSem.Claim
import GoSem.ClaimJoined
import GoSem.ClaimMapViews
import Derived.JoinedTies
import Derived.KernelRfl
namespace Go.Proofs.Ytjdedhklbdkeoaa
/- THE CELL 'sum', in the pinned program and in every row, IS THE sha256 OF THE DUMP (.gsa) THAT YtjdedhklbdkeoaaProg.lean LOADS. Nothing in Lean hashes anything: it is a label: what it is worth is what the hold of that sum in a sandbox is worth. -/
noncomputable def Try.pinned : Pinned := { name := "ytjdedhklbdkeoaa", sum := "b1e7a7fb5bb8a16392051868748cf5a1d41cfee274b880a237a0ce8ea8c7d0d9", checked := Try.checked }
namespace Rows
def none {H : Type} : Left H := { results := [], args := [] }

/-- 'laws.FnExactLoops': WHATEVER THE INPUT: true; the input reads as it did. -/
def fnExactLoopsSpec : ChangeSpec := { name := "fnExactLoops", fn := fun _ => fun
  | [d1, d2] => { results := [.lit (.bool true)], args := [d1, d2] }
  | _ => none }
def fnExactLoopsRow : OpenClaim := { program := "ytjdedhklbdkeoaa", sum := "b1e7a7fb5bb8a16392051868748cf5a1d41cfee274b880a237a0ce8ea8c7d0d9", func := "loop.example/g00326/laws.FnExactLoops", spec := "fnExactLoops", apart := false }
def FnExactLoopsSaid : Prop := fnExactLoopsRow.holds Try.pinned (OpenSpec.ofChange fnExactLoopsSpec)

/-- ITS FALSE NEIGHBOUR: 'it returns false'. Refute it at one input. -/
def fnExactLoopsWrong : ChangeSpec := { name := "fnExactLoops", fn := fun _ => fun
  | [d1, d2] => { results := [.lit (.bool false)], args := [d1, d2] }
  | _ => none }
def FnExactLoopsWrongFalsely : Prop := fnExactLoopsRow.holds Try.pinned (OpenSpec.ofChange fnExactLoopsWrong)

/-- 'laws.FnExactAgreed': WHATEVER THE INPUT: true; the input reads as it did. -/
def fnExactAgreedSpec : ChangeSpec := { name := "fnExactAgreed", fn := fun _ => fun
  | [d] => { results := [.lit (.bool true)], args := [d] }
  | _ => none }
def fnExactAgreedRow : OpenClaim := { program := "ytjdedhklbdkeoaa", sum := "b1e7a7fb5bb8a16392051868748cf5a1d41cfee274b880a237a0ce8ea8c7d0d9", func := "loop.example/g00326/laws.FnExactAgreed", spec := "fnExactAgreed", apart := false }
def FnExactAgreedSaid : Prop := fnExactAgreedRow.holds Try.pinned (OpenSpec.ofChange fnExactAgreedSpec)

/-- ITS FALSE NEIGHBOUR: 'it returns false'. Refute it at one input. -/
def fnExactAgreedWrong : ChangeSpec := { name := "fnExactAgreed", fn := fun _ => fun
  | [d] => { results := [.lit (.bool false)], args := [d] }
  | _ => none }
def FnExactAgreedWrongFalsely : Prop := fnExactAgreedRow.holds Try.pinned (OpenSpec.ofChange fnExactAgreedWrong)

/-- 'laws.FnExactUpLinks': WHATEVER THE INPUT: true; the input reads as it did. -/
def fnExactUpLinksSpec : ChangeSpec := { name := "fnExactUpLinks", fn := fun _ => fun
  | [d] => { results := [.lit (.bool true)], args := [d] }
  | _ => none }
def fnExactUpLinksRow : OpenClaim := { program := "ytjdedhklbdkeoaa", sum := "b1e7a7fb5bb8a16392051868748cf5a1d41cfee274b880a237a0ce8ea8c7d0d9", func := "loop.example/g00326/laws.FnExactUpLinks", spec := "fnExactUpLinks", apart := false }
def FnExactUpLinksSaid : Prop := fnExactUpLinksRow.holds Try.pinned (OpenSpec.ofChange fnExactUpLinksSpec)

/-- ITS FALSE NEIGHBOUR: 'it returns false'. Refute it at one input. -/
def fnExactUpLinksWrong : ChangeSpec := { name := "fnExactUpLinks", fn := fun _ => fun
  | [d] => { results := [.lit (.bool false)], args := [d] }
  | _ => none }
def FnExactUpLinksWrongFalsely : Prop := fnExactUpLinksRow.holds Try.pinned (OpenSpec.ofChange fnExactUpLinksWrong)

/-- 'laws.FnExactJoined': WHATEVER THE INPUT: true; the input reads as it did. -/
def fnExactJoinedSpec : ChangeSpec := { name := "fnExactJoined", fn := fun _ => fun
  | [d1, d2, d3] => { results := [.lit (.bool true)], args := [d1, d2, d3] }
  | _ => none }
def fnExactJoinedRow : OpenClaim := { program := "ytjdedhklbdkeoaa", sum := "b1e7a7fb5bb8a16392051868748cf5a1d41cfee274b880a237a0ce8ea8c7d0d9", func := "loop.example/g00326/laws.FnExactJoined", spec := "fnExactJoined", apart := false }
def FnExactJoinedSaid : Prop := fnExactJoinedRow.holds Try.pinned (OpenSpec.ofChange fnExactJoinedSpec)

/-- ITS FALSE NEIGHBOUR: 'it returns false'. Refute it at one input. -/
def fnExactJoinedWrong : ChangeSpec := { name := "fnExactJoined", fn := fun _ => fun
  | [d1, d2, d3] => { results := [.lit (.bool false)], args := [d1, d2, d3] }
  | _ => none }
def FnExactJoinedWrongFalsely : Prop := fnExactJoinedRow.holds Try.pinned (OpenSpec.ofChange fnExactJoinedWrong)

/-- 'laws.FnExactNetOk': WHATEVER THE INPUT: true; the input reads as it did. -/
def fnExactNetOkSpec : ChangeSpec := { name := "fnExactNetOk", fn := fun _ => fun
  | [d] => { results := [.lit (.bool true)], args := [d] }
  | _ => none }
def fnExactNetOkRow : OpenClaim := { program := "ytjdedhklbdkeoaa", sum := "b1e7a7fb5bb8a16392051868748cf5a1d41cfee274b880a237a0ce8ea8c7d0d9", func := "loop.example/g00326/laws.FnExactNetOk", spec := "fnExactNetOk", apart := false }
def FnExactNetOkSaid : Prop := fnExactNetOkRow.holds Try.pinned (OpenSpec.ofChange fnExactNetOkSpec)

/-- ITS FALSE NEIGHBOUR: 'it returns false'. Refute it at one input. -/
def fnExactNetOkWrong : ChangeSpec := { name := "fnExactNetOk", fn := fun _ => fun
  | [d] => { results := [.lit (.bool false)], args := [d] }
  | _ => none }
def FnExactNetOkWrongFalsely : Prop := fnExactNetOkRow.holds Try.pinned (OpenSpec.ofChange fnExactNetOkWrong)

/-- 'laws.FnExactLive': WHATEVER THE INPUT: true; the input reads as it did. -/
def fnExactLiveSpec : ChangeSpec := { name := "fnExactLive", fn := fun _ => fun
  | [d] => { results := [.lit (.bool true)], args := [d] }
  | _ => none }
def fnExactLiveRow : OpenClaim := { program := "ytjdedhklbdkeoaa", sum := "b1e7a7fb5bb8a16392051868748cf5a1d41cfee274b880a237a0ce8ea8c7d0d9", func := "loop.example/g00326/laws.FnExactLive", spec := "fnExactLive", apart := false }
def FnExactLiveSaid : Prop := fnExactLiveRow.holds Try.pinned (OpenSpec.ofChange fnExactLiveSpec)

/-- ITS FALSE NEIGHBOUR: 'it returns false'. Refute it at one input. -/
def fnExactLiveWrong : ChangeSpec := { name := "fnExactLive", fn := fun _ => fun
  | [d] => { results := [.lit (.bool false)], args := [d] }
  | _ => none }
def FnExactLiveWrongFalsely : Prop := fnExactLiveRow.holds Try.pinned (OpenSpec.ofChange fnExactLiveWrong)

/-- 'laws.FnExactLinkSet': WHATEVER THE INPUT: true; the input reads as it did. -/
def fnExactLinkSetSpec : ChangeSpec := { name := "fnExactLinkSet", fn := fun _ => fun
  | [d1, d2, d3] => { results := [.lit (.bool true)], args := [d1, d2, d3] }
  | _ => none }
def fnExactLinkSetRow : OpenClaim := { program := "ytjdedhklbdkeoaa", sum := "b1e7a7fb5bb8a16392051868748cf5a1d41cfee274b880a237a0ce8ea8c7d0d9", func := "loop.example/g00326/laws.FnExactLinkSet", spec := "fnExactLinkSet", apart := false }
def FnExactLinkSetSaid : Prop := fnExactLinkSetRow.holds Try.pinned (OpenSpec.ofChange fnExactLinkSetSpec)

/-- ITS FALSE NEIGHBOUR: 'it returns false'. Refute it at one input. -/
def fnExactLinkSetWrong : ChangeSpec := { name := "fnExactLinkSet", fn := fun _ => fun
  | [d1, d2, d3] => { results := [.lit (.bool false)], args := [d1, d2, d3] }
  | _ => none }
def FnExactLinkSetWrongFalsely : Prop := fnExactLinkSetRow.holds Try.pinned (OpenSpec.ofChange fnExactLinkSetWrong)

/-- 'laws.FnExactHearVec': WHATEVER THE INPUT: true; the input reads as it did. -/
def fnExactHearVecSpec : ChangeSpec := { name := "fnExactHearVec", fn := fun _ => fun
  | [d1, d2, d3] => { results := [.lit (.bool true)], args := [d1, d2, d3] }
  | _ => none }
def fnExactHearVecRow : OpenClaim := { program := "ytjdedhklbdkeoaa", sum := "b1e7a7fb5bb8a16392051868748cf5a1d41cfee274b880a237a0ce8ea8c7d0d9", func := "loop.example/g00326/laws.FnExactHearVec", spec := "fnExactHearVec", apart := false }
def FnExactHearVecSaid : Prop := fnExactHearVecRow.holds Try.pinned (OpenSpec.ofChange fnExactHearVecSpec)

/-- ITS FALSE NEIGHBOUR: 'it returns false'. Refute it at one input. -/
def fnExactHearVecWrong : ChangeSpec := { name := "fnExactHearVec", fn := fun _ => fun
  | [d1, d2, d3] => { results := [.lit (.bool false)], args := [d1, d2, d3] }
  | _ => none }
def FnExactHearVecWrongFalsely : Prop := fnExactHearVecRow.holds Try.pinned (OpenSpec.ofChange fnExactHearVecWrong)

/-- 'laws.FnExactTick': WHATEVER THE INPUT: true; the input reads as it did. -/
def fnExactTickSpec : ChangeSpec := { name := "fnExactTick", fn := fun _ => fun
  | [d] => { results := [.lit (.bool true)], args := [d] }
  | _ => none }
def fnExactTickRow : OpenClaim := { program := "ytjdedhklbdkeoaa", sum := "b1e7a7fb5bb8a16392051868748cf5a1d41cfee274b880a237a0ce8ea8c7d0d9", func := "loop.example/g00326/laws.FnExactTick", spec := "fnExactTick", apart := false }
def FnExactTickSaid : Prop := fnExactTickRow.holds Try.pinned (OpenSpec.ofChange fnExactTickSpec)

/-- ITS FALSE NEIGHBOUR: 'it returns false'. Refute it at one input. -/
def fnExactTickWrong : ChangeSpec := { name := "fnExactTick", fn := fun _ => fun
  | [d] => { results := [.lit (.bool false)], args := [d] }
  | _ => none }
def FnExactTickWrongFalsely : Prop := fnExactTickRow.holds Try.pinned (OpenSpec.ofChange fnExactTickWrong)

/-- 'laws.FnExactMibGet': WHATEVER THE INPUT: true; the input reads as it did. -/
def fnExactMibGetSpec : ChangeSpec := { name := "fnExactMibGet", fn := fun _ => fun
  | [d1, d2] => { results := [.lit (.bool true)], args := [d1, d2] }
  | _ => none }
def fnExactMibGetRow : OpenClaim := { program := "ytjdedhklbdkeoaa", sum := "b1e7a7fb5bb8a16392051868748cf5a1d41cfee274b880a237a0ce8ea8c7d0d9", func := "loop.example/g00326/laws.FnExactMibGet", spec := "fnExactMibGet", apart := false }
def FnExactMibGetSaid : Prop := fnExactMibGetRow.holds Try.pinned (OpenSpec.ofChange fnExactMibGetSpec)

/-- ITS FALSE NEIGHBOUR: 'it returns false'. Refute it at one input. -/
def fnExactMibGetWrong : ChangeSpec := { name := "fnExactMibGet", fn := fun _ => fun
  | [d1, d2] => { results := [.lit (.bool false)], args := [d1, d2] }
  | _ => none }
def FnExactMibGetWrongFalsely : Prop := fnExactMibGetRow.holds Try.pinned (OpenSpec.ofChange fnExactMibGetWrong)

/-- 'laws.FnExactMibList': WHATEVER THE INPUT: true; the input reads as it did. -/
def fnExactMibListSpec : ChangeSpec := { name := "fnExactMibList", fn := fun _ => fun
  | [d] => { results := [.lit (.bool true)], args := [d] }
  | _ => none }
def fnExactMibListRow : OpenClaim := { program := "ytjdedhklbdkeoaa", sum := "b1e7a7fb5bb8a16392051868748cf5a1d41cfee274b880a237a0ce8ea8c7d0d9", func := "loop.example/g00326/laws.FnExactMibList", spec := "fnExactMibList", apart := false }
def FnExactMibListSaid : Prop := fnExactMibListRow.holds Try.pinned (OpenSpec.ofChange fnExactMibListSpec)

/-- ITS FALSE NEIGHBOUR: 'it returns false'. Refute it at one input. -/
def fnExactMibListWrong : ChangeSpec := { name := "fnExactMibList", fn := fun _ => fun
  | [d] => { results := [.lit (.bool false)], args := [d] }
  | _ => none }
def FnExactMibListWrongFalsely : Prop := fnExactMibListRow.holds Try.pinned (OpenSpec.ofChange fnExactMibListWrong)

/-- 'laws.FnExactMibNext': WHATEVER THE INPUT: true; the input reads as it did. -/
def fnExactMibNextSpec : ChangeSpec := { name := "fnExactMibNext", fn := fun _ => fun
  | [d1, d2] => { results := [.lit (.bool true)], args := [d1, d2] }
  | _ => none }
def fnExactMibNextRow : OpenClaim := { program := "ytjdedhklbdkeoaa", sum := "b1e7a7fb5bb8a16392051868748cf5a1d41cfee274b880a237a0ce8ea8c7d0d9", func := "loop.example/g00326/laws.FnExactMibNext", spec := "fnExactMibNext", apart := false }
def FnExactMibNextSaid : Prop := fnExactMibNextRow.holds Try.pinned (OpenSpec.ofChange fnExactMibNextSpec)

/-- ITS FALSE NEIGHBOUR: 'it returns false'. Refute it at one input. -/
def fnExactMibNextWrong : ChangeSpec := { name := "fnExactMibNext", fn := fun _ => fun
  | [d1, d2] => { results := [.lit (.bool false)], args := [d1, d2] }
  | _ => none }
def FnExactMibNextWrongFalsely : Prop := fnExactMibNextRow.holds Try.pinned (OpenSpec.ofChange fnExactMibNextWrong)

/- THE SECOND FORM. 'bulk': how many values and letters a reading holds, each counted each time it is reached (what is shared counts as often as it is met; a slice's spare places count too). A statement '..UptoSaid' is the law's where the arguments, and the package variables that the reading takes, are together of bulk at most 1048576: NARROWER than '..Said'. Prove '..Said' where nothing that the law and all that it calls make is longer than what came in: it says more and counts as full. Else prove '..UptoSaid'. A law counts once. -/
mutual
def uptoBulk {H : Type} : DataW H → Nat
  | .lit (.string bytes) => bytes.length + 1
  | .lit _ => 1
  | .nil => 1
  | .ptr d => uptoBulk d + 1
  | .slice elems spare => uptoBulkAll elems + uptoBulkAll spare + 1
  | .agg parts => uptoBulkAll parts + 1
  | .iface _ d => uptoBulk d + 1
  | .map entries => uptoBulkEntries entries + 1
  | .held _ => 1
def uptoBulkAll {H : Type} : List (DataW H) → Nat
  | [] => 0
  | d :: r => uptoBulk d + uptoBulkAll r
def uptoBulkEntries {H : Type} : List (Lit × DataW H) → Nat
  | [] => 0
  | x :: r => uptoBulkEntry x + uptoBulkEntries r
def uptoBulkEntry {H : Type} : Lit × DataW H → Nat
  | (.string bytes, d) => bytes.length + uptoBulk d + 1
  | (_, d) => uptoBulk d + 1
 end
def uptoSmall : (H : Type) → List (DataW H) → Bool := fun _ ds => decide (uptoBulkAll ds ≤ 1048576)
def OpenSpec.upto (s : _root_.Go.ChangeSpec) : _root_.Go.OpenSpec := { _root_.Go.OpenSpec.ofChange s with cond := some uptoSmall }

/-- 'laws.FnExactLoops', WHERE WHAT IT READS IS OF BULK AT MOST 1048576: true; the input reads as it did. -/
def fnExactLoopsUptoRow : OpenClaim := { program := "ytjdedhklbdkeoaa", sum := "b1e7a7fb5bb8a16392051868748cf5a1d41cfee274b880a237a0ce8ea8c7d0d9", func := "loop.example/g00326/laws.FnExactLoops", spec := "fnExactLoops", apart := false, narrowed := true }
def FnExactLoopsUptoSaid : Prop := fnExactLoopsUptoRow.holds Try.pinned (OpenSpec.upto fnExactLoopsSpec)

/-- 'laws.FnExactAgreed', WHERE WHAT IT READS IS OF BULK AT MOST 1048576: true; the input reads as it did. -/
def fnExactAgreedUptoRow : OpenClaim := { program := "ytjdedhklbdkeoaa", sum := "b1e7a7fb5bb8a16392051868748cf5a1d41cfee274b880a237a0ce8ea8c7d0d9", func := "loop.example/g00326/laws.FnExactAgreed", spec := "fnExactAgreed", apart := false, narrowed := true }
def FnExactAgreedUptoSaid : Prop := fnExactAgreedUptoRow.holds Try.pinned (OpenSpec.upto fnExactAgreedSpec)

/-- 'laws.FnExactUpLinks', WHERE WHAT IT READS IS OF BULK AT MOST 1048576: true; the input reads as it did. -/
def fnExactUpLinksUptoRow : OpenClaim := { program := "ytjdedhklbdkeoaa", sum := "b1e7a7fb5bb8a16392051868748cf5a1d41cfee274b880a237a0ce8ea8c7d0d9", func := "loop.example/g00326/laws.FnExactUpLinks", spec := "fnExactUpLinks", apart := false, narrowed := true }
def FnExactUpLinksUptoSaid : Prop := fnExactUpLinksUptoRow.holds Try.pinned (OpenSpec.upto fnExactUpLinksSpec)

/-- 'laws.FnExactJoined', WHERE WHAT IT READS IS OF BULK AT MOST 1048576: true; the input reads as it did. -/
def fnExactJoinedUptoRow : OpenClaim := { program := "ytjdedhklbdkeoaa", sum := "b1e7a7fb5bb8a16392051868748cf5a1d41cfee274b880a237a0ce8ea8c7d0d9", func := "loop.example/g00326/laws.FnExactJoined", spec := "fnExactJoined", apart := false, narrowed := true }
def FnExactJoinedUptoSaid : Prop := fnExactJoinedUptoRow.holds Try.pinned (OpenSpec.upto fnExactJoinedSpec)

/-- 'laws.FnExactNetOk', WHERE WHAT IT READS IS OF BULK AT MOST 1048576: true; the input reads as it did. -/
def fnExactNetOkUptoRow : OpenClaim := { program := "ytjdedhklbdkeoaa", sum := "b1e7a7fb5bb8a16392051868748cf5a1d41cfee274b880a237a0ce8ea8c7d0d9", func := "loop.example/g00326/laws.FnExactNetOk", spec := "fnExactNetOk", apart := false, narrowed := true }
def FnExactNetOkUptoSaid : Prop := fnExactNetOkUptoRow.holds Try.pinned (OpenSpec.upto fnExactNetOkSpec)

/-- 'laws.FnExactLive', WHERE WHAT IT READS IS OF BULK AT MOST 1048576: true; the input reads as it did. -/
def fnExactLiveUptoRow : OpenClaim := { program := "ytjdedhklbdkeoaa", sum := "b1e7a7fb5bb8a16392051868748cf5a1d41cfee274b880a237a0ce8ea8c7d0d9", func := "loop.example/g00326/laws.FnExactLive", spec := "fnExactLive", apart := false, narrowed := true }
def FnExactLiveUptoSaid : Prop := fnExactLiveUptoRow.holds Try.pinned (OpenSpec.upto fnExactLiveSpec)

/-- 'laws.FnExactLinkSet', WHERE WHAT IT READS IS OF BULK AT MOST 1048576: true; the input reads as it did. -/
def fnExactLinkSetUptoRow : OpenClaim := { program := "ytjdedhklbdkeoaa", sum := "b1e7a7fb5bb8a16392051868748cf5a1d41cfee274b880a237a0ce8ea8c7d0d9", func := "loop.example/g00326/laws.FnExactLinkSet", spec := "fnExactLinkSet", apart := false, narrowed := true }
def FnExactLinkSetUptoSaid : Prop := fnExactLinkSetUptoRow.holds Try.pinned (OpenSpec.upto fnExactLinkSetSpec)

/-- 'laws.FnExactHearVec', WHERE WHAT IT READS IS OF BULK AT MOST 1048576: true; the input reads as it did. -/
def fnExactHearVecUptoRow : OpenClaim := { program := "ytjdedhklbdkeoaa", sum := "b1e7a7fb5bb8a16392051868748cf5a1d41cfee274b880a237a0ce8ea8c7d0d9", func := "loop.example/g00326/laws.FnExactHearVec", spec := "fnExactHearVec", apart := false, narrowed := true }
def FnExactHearVecUptoSaid : Prop := fnExactHearVecUptoRow.holds Try.pinned (OpenSpec.upto fnExactHearVecSpec)

/-- 'laws.FnExactTick', WHERE WHAT IT READS IS OF BULK AT MOST 1048576: true; the input reads as it did. -/
def fnExactTickUptoRow : OpenClaim := { program := "ytjdedhklbdkeoaa", sum := "b1e7a7fb5bb8a16392051868748cf5a1d41cfee274b880a237a0ce8ea8c7d0d9", func := "loop.example/g00326/laws.FnExactTick", spec := "fnExactTick", apart := false, narrowed := true }
def FnExactTickUptoSaid : Prop := fnExactTickUptoRow.holds Try.pinned (OpenSpec.upto fnExactTickSpec)

/-- 'laws.FnExactMibGet', WHERE WHAT IT READS IS OF BULK AT MOST 1048576: true; the input reads as it did. -/
def fnExactMibGetUptoRow : OpenClaim := { program := "ytjdedhklbdkeoaa", sum := "b1e7a7fb5bb8a16392051868748cf5a1d41cfee274b880a237a0ce8ea8c7d0d9", func := "loop.example/g00326/laws.FnExactMibGet", spec := "fnExactMibGet", apart := false, narrowed := true }
def FnExactMibGetUptoSaid : Prop := fnExactMibGetUptoRow.holds Try.pinned (OpenSpec.upto fnExactMibGetSpec)

/-- 'laws.FnExactMibList', WHERE WHAT IT READS IS OF BULK AT MOST 1048576: true; the input reads as it did. -/
def fnExactMibListUptoRow : OpenClaim := { program := "ytjdedhklbdkeoaa", sum := "b1e7a7fb5bb8a16392051868748cf5a1d41cfee274b880a237a0ce8ea8c7d0d9", func := "loop.example/g00326/laws.FnExactMibList", spec := "fnExactMibList", apart := false, narrowed := true }
def FnExactMibListUptoSaid : Prop := fnExactMibListUptoRow.holds Try.pinned (OpenSpec.upto fnExactMibListSpec)

/-- 'laws.FnExactMibNext', WHERE WHAT IT READS IS OF BULK AT MOST 1048576: true; the input reads as it did. -/
def fnExactMibNextUptoRow : OpenClaim := { program := "ytjdedhklbdkeoaa", sum := "b1e7a7fb5bb8a16392051868748cf5a1d41cfee274b880a237a0ce8ea8c7d0d9", func := "loop.example/g00326/laws.FnExactMibNext", spec := "fnExactMibNext", apart := false, narrowed := true }
def FnExactMibNextUptoSaid : Prop := fnExactMibNextUptoRow.holds Try.pinned (OpenSpec.upto fnExactMibNextSpec)

end Rows
end Go.Proofs.Ytjdedhklbdkeoaa
