/-
  No cell of these rows narrows 'for every input' (looked for: loops, veiled, ifaces, maps, wideKeys, modest, calm, conditions, laid).
  DERIVED. THE GIVEN ROWS OF THIS SEAT. 11 by the template 'for every input the law returns true; each argument reads behind the call as it read before'; 0 by the template 'total and deterministic' (their statements: YtnhmckiejhbmcaaTotals.lean).
  GIVEN WITH THE SEED: the statements are not yours to turn. If you find one false, say at which input.
  Laid BY PROGRAM, IN A SANDBOX (cutbox-rows.mjs): the forced cells as the released guide's own fill.sh prints them over the translation 06454d545771c889… (all of the seat's roots in one cut). By AI agents, Wed Nov 11 2026. No macro, syntax, notation, axiom, sorry.
-/
import Derived.Test.YtnhmckiejhbmcaaChecked
import GoSem.Claim
import GoSem.ClaimJoined
import GoSem.ClaimMapViews
import Derived.JoinedTies
import Derived.KernelRfl
namespace Go.Proofs.Ytnhmckiejhbmcaa
/- THE CELL 'sum', in the pinned program and in every row, IS THE sha256 OF THE DUMP (.gsa) THAT YtnhmckiejhbmcaaProg.lean LOADS. Nothing in Lean hashes anything: it is a label: what it is worth is what the hold of that sum in a sandbox is worth. -/
noncomputable def Try.pinned : Pinned := { name := "ytnhmckiejhbmcaa", sum := "06454d545771c889cf48782560891b36ab789e0ca261a52f26455fe7f997aeae", checked := Try.checked }
namespace Rows
def none {H : Type} : Left H := { results := [], args := [] }

/-- 'laws.FnExactPtOk': WHATEVER THE INPUT: true; the input reads as it did. -/
def fnExactPtOkSpec : ChangeSpec := { name := "fnExactPtOk", fn := fun _ => fun
  | [d] => { results := [.lit (.bool true)], args := [d] }
  | _ => none }
def fnExactPtOkRow : OpenClaim := { program := "ytnhmckiejhbmcaa", sum := "06454d545771c889cf48782560891b36ab789e0ca261a52f26455fe7f997aeae", func := "loop.example/g00326/laws.FnExactPtOk", spec := "fnExactPtOk", apart := false }
def FnExactPtOkSaid : Prop := fnExactPtOkRow.holds Try.pinned (OpenSpec.ofChange fnExactPtOkSpec)

/-- ITS FALSE NEIGHBOUR: 'it returns false'. Refute it at one input. -/
def fnExactPtOkWrong : ChangeSpec := { name := "fnExactPtOk", fn := fun _ => fun
  | [d] => { results := [.lit (.bool false)], args := [d] }
  | _ => none }
def FnExactPtOkWrongFalsely : Prop := fnExactPtOkRow.holds Try.pinned (OpenSpec.ofChange fnExactPtOkWrong)

/-- 'laws.FnExactEgressOf': WHATEVER THE INPUT: true; the input reads as it did. -/
def fnExactEgressOfSpec : ChangeSpec := { name := "fnExactEgressOf", fn := fun _ => fun
  | [d1, d2] => { results := [.lit (.bool true)], args := [d1, d2] }
  | _ => none }
def fnExactEgressOfRow : OpenClaim := { program := "ytnhmckiejhbmcaa", sum := "06454d545771c889cf48782560891b36ab789e0ca261a52f26455fe7f997aeae", func := "loop.example/g00326/laws.FnExactEgressOf", spec := "fnExactEgressOf", apart := false }
def FnExactEgressOfSaid : Prop := fnExactEgressOfRow.holds Try.pinned (OpenSpec.ofChange fnExactEgressOfSpec)

/-- ITS FALSE NEIGHBOUR: 'it returns false'. Refute it at one input. -/
def fnExactEgressOfWrong : ChangeSpec := { name := "fnExactEgressOf", fn := fun _ => fun
  | [d1, d2] => { results := [.lit (.bool false)], args := [d1, d2] }
  | _ => none }
def FnExactEgressOfWrongFalsely : Prop := fnExactEgressOfRow.holds Try.pinned (OpenSpec.ofChange fnExactEgressOfWrong)

/-- 'laws.FnExactVtabNew': WHATEVER THE INPUT: true; the input reads as it did. -/
def fnExactVtabNewSpec : ChangeSpec := { name := "fnExactVtabNew", fn := fun _ => fun
  | [d] => { results := [.lit (.bool true)], args := [d] }
  | _ => none }
def fnExactVtabNewRow : OpenClaim := { program := "ytnhmckiejhbmcaa", sum := "06454d545771c889cf48782560891b36ab789e0ca261a52f26455fe7f997aeae", func := "loop.example/g00326/laws.FnExactVtabNew", spec := "fnExactVtabNew", apart := false }
def FnExactVtabNewSaid : Prop := fnExactVtabNewRow.holds Try.pinned (OpenSpec.ofChange fnExactVtabNewSpec)

/-- ITS FALSE NEIGHBOUR: 'it returns false'. Refute it at one input. -/
def fnExactVtabNewWrong : ChangeSpec := { name := "fnExactVtabNew", fn := fun _ => fun
  | [d] => { results := [.lit (.bool false)], args := [d] }
  | _ => none }
def FnExactVtabNewWrongFalsely : Prop := fnExactVtabNewRow.holds Try.pinned (OpenSpec.ofChange fnExactVtabNewWrong)

/-- 'laws.FnExactClassOf': WHATEVER THE INPUT: true; the input reads as it did. -/
def fnExactClassOfSpec : ChangeSpec := { name := "fnExactClassOf", fn := fun _ => fun
  | [d1, d2, d3] => { results := [.lit (.bool true)], args := [d1, d2, d3] }
  | _ => none }
def fnExactClassOfRow : OpenClaim := { program := "ytnhmckiejhbmcaa", sum := "06454d545771c889cf48782560891b36ab789e0ca261a52f26455fe7f997aeae", func := "loop.example/g00326/laws.FnExactClassOf", spec := "fnExactClassOf", apart := false }
def FnExactClassOfSaid : Prop := fnExactClassOfRow.holds Try.pinned (OpenSpec.ofChange fnExactClassOfSpec)

/-- ITS FALSE NEIGHBOUR: 'it returns false'. Refute it at one input. -/
def fnExactClassOfWrong : ChangeSpec := { name := "fnExactClassOf", fn := fun _ => fun
  | [d1, d2, d3] => { results := [.lit (.bool false)], args := [d1, d2, d3] }
  | _ => none }
def FnExactClassOfWrongFalsely : Prop := fnExactClassOfRow.holds Try.pinned (OpenSpec.ofChange fnExactClassOfWrong)

/-- 'laws.FnExactVtabOk': WHATEVER THE INPUT: true; the input reads as it did. -/
def fnExactVtabOkSpec : ChangeSpec := { name := "fnExactVtabOk", fn := fun _ => fun
  | [d1, d2] => { results := [.lit (.bool true)], args := [d1, d2] }
  | _ => none }
def fnExactVtabOkRow : OpenClaim := { program := "ytnhmckiejhbmcaa", sum := "06454d545771c889cf48782560891b36ab789e0ca261a52f26455fe7f997aeae", func := "loop.example/g00326/laws.FnExactVtabOk", spec := "fnExactVtabOk", apart := false }
def FnExactVtabOkSaid : Prop := fnExactVtabOkRow.holds Try.pinned (OpenSpec.ofChange fnExactVtabOkSpec)

/-- ITS FALSE NEIGHBOUR: 'it returns false'. Refute it at one input. -/
def fnExactVtabOkWrong : ChangeSpec := { name := "fnExactVtabOk", fn := fun _ => fun
  | [d1, d2] => { results := [.lit (.bool false)], args := [d1, d2] }
  | _ => none }
def FnExactVtabOkWrongFalsely : Prop := fnExactVtabOkRow.holds Try.pinned (OpenSpec.ofChange fnExactVtabOkWrong)

/-- 'laws.FnExactBestVec': WHATEVER THE INPUT: true; the input reads as it did. -/
def fnExactBestVecSpec : ChangeSpec := { name := "fnExactBestVec", fn := fun _ => fun
  | [d1, d2] => { results := [.lit (.bool true)], args := [d1, d2] }
  | _ => none }
def fnExactBestVecRow : OpenClaim := { program := "ytnhmckiejhbmcaa", sum := "06454d545771c889cf48782560891b36ab789e0ca261a52f26455fe7f997aeae", func := "loop.example/g00326/laws.FnExactBestVec", spec := "fnExactBestVec", apart := false }
def FnExactBestVecSaid : Prop := fnExactBestVecRow.holds Try.pinned (OpenSpec.ofChange fnExactBestVecSpec)

/-- ITS FALSE NEIGHBOUR: 'it returns false'. Refute it at one input. -/
def fnExactBestVecWrong : ChangeSpec := { name := "fnExactBestVec", fn := fun _ => fun
  | [d1, d2] => { results := [.lit (.bool false)], args := [d1, d2] }
  | _ => none }
def FnExactBestVecWrongFalsely : Prop := fnExactBestVecRow.holds Try.pinned (OpenSpec.ofChange fnExactBestVecWrong)

/-- 'laws.FnExactSayVec': WHATEVER THE INPUT: true; the input reads as it did. -/
def fnExactSayVecSpec : ChangeSpec := { name := "fnExactSayVec", fn := fun _ => fun
  | [d1, d2, d3] => { results := [.lit (.bool true)], args := [d1, d2, d3] }
  | _ => none }
def fnExactSayVecRow : OpenClaim := { program := "ytnhmckiejhbmcaa", sum := "06454d545771c889cf48782560891b36ab789e0ca261a52f26455fe7f997aeae", func := "loop.example/g00326/laws.FnExactSayVec", spec := "fnExactSayVec", apart := false }
def FnExactSayVecSaid : Prop := fnExactSayVecRow.holds Try.pinned (OpenSpec.ofChange fnExactSayVecSpec)

/-- ITS FALSE NEIGHBOUR: 'it returns false'. Refute it at one input. -/
def fnExactSayVecWrong : ChangeSpec := { name := "fnExactSayVec", fn := fun _ => fun
  | [d1, d2, d3] => { results := [.lit (.bool false)], args := [d1, d2, d3] }
  | _ => none }
def FnExactSayVecWrongFalsely : Prop := fnExactSayVecRow.holds Try.pinned (OpenSpec.ofChange fnExactSayVecWrong)

/-- 'laws.FnRoles': WHATEVER THE INPUT: true; the input reads as it did. -/
def fnRolesSpec : ChangeSpec := { name := "fnRoles", fn := fun _ => fun
  | [d] => { results := [.lit (.bool true)], args := [d] }
  | _ => none }
def fnRolesRow : OpenClaim := { program := "ytnhmckiejhbmcaa", sum := "06454d545771c889cf48782560891b36ab789e0ca261a52f26455fe7f997aeae", func := "loop.example/g00326/laws.FnRoles", spec := "fnRoles", apart := false }
def FnRolesSaid : Prop := fnRolesRow.holds Try.pinned (OpenSpec.ofChange fnRolesSpec)

/-- ITS FALSE NEIGHBOUR: 'it returns false'. Refute it at one input. -/
def fnRolesWrong : ChangeSpec := { name := "fnRoles", fn := fun _ => fun
  | [d] => { results := [.lit (.bool false)], args := [d] }
  | _ => none }
def FnRolesWrongFalsely : Prop := fnRolesRow.holds Try.pinned (OpenSpec.ofChange fnRolesWrong)

/-- 'laws.FnExactRoleOf': WHATEVER THE INPUT: true; the input reads as it did. -/
def fnExactRoleOfSpec : ChangeSpec := { name := "fnExactRoleOf", fn := fun _ => fun
  | [d1, d2, d3] => { results := [.lit (.bool true)], args := [d1, d2, d3] }
  | _ => none }
def fnExactRoleOfRow : OpenClaim := { program := "ytnhmckiejhbmcaa", sum := "06454d545771c889cf48782560891b36ab789e0ca261a52f26455fe7f997aeae", func := "loop.example/g00326/laws.FnExactRoleOf", spec := "fnExactRoleOf", apart := false }
def FnExactRoleOfSaid : Prop := fnExactRoleOfRow.holds Try.pinned (OpenSpec.ofChange fnExactRoleOfSpec)

/-- ITS FALSE NEIGHBOUR: 'it returns false'. Refute it at one input. -/
def fnExactRoleOfWrong : ChangeSpec := { name := "fnExactRoleOf", fn := fun _ => fun
  | [d1, d2, d3] => { results := [.lit (.bool false)], args := [d1, d2, d3] }
  | _ => none }
def FnExactRoleOfWrongFalsely : Prop := fnExactRoleOfRow.holds Try.pinned (OpenSpec.ofChange fnExactRoleOfWrong)

/-- 'laws.FnExactSends': WHATEVER THE INPUT: true; the input reads as it did. -/
def fnExactSendsSpec : ChangeSpec := { name := "fnExactSends", fn := fun _ => fun
  | [d1, d2] => { results := [.lit (.bool true)], args := [d1, d2] }
  | _ => none }
def fnExactSendsRow : OpenClaim := { program := "ytnhmckiejhbmcaa", sum := "06454d545771c889cf48782560891b36ab789e0ca261a52f26455fe7f997aeae", func := "loop.example/g00326/laws.FnExactSends", spec := "fnExactSends", apart := false }
def FnExactSendsSaid : Prop := fnExactSendsRow.holds Try.pinned (OpenSpec.ofChange fnExactSendsSpec)

/-- ITS FALSE NEIGHBOUR: 'it returns false'. Refute it at one input. -/
def fnExactSendsWrong : ChangeSpec := { name := "fnExactSends", fn := fun _ => fun
  | [d1, d2] => { results := [.lit (.bool false)], args := [d1, d2] }
  | _ => none }
def FnExactSendsWrongFalsely : Prop := fnExactSendsRow.holds Try.pinned (OpenSpec.ofChange fnExactSendsWrong)

/-- 'laws.FnClasses': WHATEVER THE INPUT: true; the input reads as it did. -/
def fnClassesSpec : ChangeSpec := { name := "fnClasses", fn := fun _ => fun
  | [d] => { results := [.lit (.bool true)], args := [d] }
  | _ => none }
def fnClassesRow : OpenClaim := { program := "ytnhmckiejhbmcaa", sum := "06454d545771c889cf48782560891b36ab789e0ca261a52f26455fe7f997aeae", func := "loop.example/g00326/laws.FnClasses", spec := "fnClasses", apart := false }
def FnClassesSaid : Prop := fnClassesRow.holds Try.pinned (OpenSpec.ofChange fnClassesSpec)

/-- ITS FALSE NEIGHBOUR: 'it returns false'. Refute it at one input. -/
def fnClassesWrong : ChangeSpec := { name := "fnClasses", fn := fun _ => fun
  | [d] => { results := [.lit (.bool false)], args := [d] }
  | _ => none }
def FnClassesWrongFalsely : Prop := fnClassesRow.holds Try.pinned (OpenSpec.ofChange fnClassesWrong)

/- THE SECOND FORM. 'bulk': how many values and letters a reading holds, each counted each time it is reached (what is shared counts as often as it is met; a slice's spare places count too). A statement '..UptoSaid' is the law's where the arguments, and the package variables that the reading takes, are together of bulk at most 1048576: NARROWER than '..Said'. Prove '..Said' where nothing that the law and all that it calls make is longer than what came in: it says more and counts as full. Else prove '..UptoSaid'. A law counts once. -/
mutual
def uptoBulk {H : Type} : DataW H → Nat
  | .lit (.string bytes) => bytes.length + 1
  | .lit _ => 1
  | .nil => 1
  | .ptr d => uptoBulk d + 1
  | .slice elems spare => uptoBulkAll elems + uptoBulkAll spare + 1
  | .agg parts => uptoBulkAll parts + 1
  | .iface _ d => uptoBulk d + 1
  | .map entries => uptoBulkEntries entries + 1
  | .held _ => 1
def uptoBulkAll {H : Type} : List (DataW H) → Nat
  | [] => 0
  | d :: r => uptoBulk d + uptoBulkAll r
def uptoBulkEntries {H : Type} : List (Lit × DataW H) → Nat
  | [] => 0
  | x :: r => uptoBulkEntry x + uptoBulkEntries r
def uptoBulkEntry {H : Type} : Lit × DataW H → Nat
  | (.string bytes, d) => bytes.length + uptoBulk d + 1
  | (_, d) => uptoBulk d + 1
 end
def uptoSmall : (H : Type) → List (DataW H) → Bool := fun _ ds => decide (uptoBulkAll ds ≤ 1048576)
def OpenSpec.upto (s : _root_.Go.ChangeSpec) : _root_.Go.OpenSpec := { _root_.Go.OpenSpec.ofChange s with cond := some uptoSmall }

/-- 'laws.FnExactPtOk', WHERE WHAT IT READS IS OF BULK AT MOST 1048576: true; the input reads as it did. -/
def fnExactPtOkUptoRow : OpenClaim := { program := "ytnhmckiejhbmcaa", sum := "06454d545771c889cf48782560891b36ab789e0ca261a52f26455fe7f997aeae", func := "loop.example/g00326/laws.FnExactPtOk", spec := "fnExactPtOk", apart := false, narrowed := true }
def FnExactPtOkUptoSaid : Prop := fnExactPtOkUptoRow.holds Try.pinned (OpenSpec.upto fnExactPtOkSpec)

/-- 'laws.FnExactEgressOf', WHERE WHAT IT READS IS OF BULK AT MOST 1048576: true; the input reads as it did. -/
def fnExactEgressOfUptoRow : OpenClaim := { program := "ytnhmckiejhbmcaa", sum := "06454d545771c889cf48782560891b36ab789e0ca261a52f26455fe7f997aeae", func := "loop.example/g00326/laws.FnExactEgressOf", spec := "fnExactEgressOf", apart := false, narrowed := true }
def FnExactEgressOfUptoSaid : Prop := fnExactEgressOfUptoRow.holds Try.pinned (OpenSpec.upto fnExactEgressOfSpec)

/-- 'laws.FnExactVtabNew', WHERE WHAT IT READS IS OF BULK AT MOST 1048576: true; the input reads as it did. -/
def fnExactVtabNewUptoRow : OpenClaim := { program := "ytnhmckiejhbmcaa", sum := "06454d545771c889cf48782560891b36ab789e0ca261a52f26455fe7f997aeae", func := "loop.example/g00326/laws.FnExactVtabNew", spec := "fnExactVtabNew", apart := false, narrowed := true }
def FnExactVtabNewUptoSaid : Prop := fnExactVtabNewUptoRow.holds Try.pinned (OpenSpec.upto fnExactVtabNewSpec)

/-- 'laws.FnExactClassOf', WHERE WHAT IT READS IS OF BULK AT MOST 1048576: true; the input reads as it did. -/
def fnExactClassOfUptoRow : OpenClaim := { program := "ytnhmckiejhbmcaa", sum := "06454d545771c889cf48782560891b36ab789e0ca261a52f26455fe7f997aeae", func := "loop.example/g00326/laws.FnExactClassOf", spec := "fnExactClassOf", apart := false, narrowed := true }
def FnExactClassOfUptoSaid : Prop := fnExactClassOfUptoRow.holds Try.pinned (OpenSpec.upto fnExactClassOfSpec)

/-- 'laws.FnExactVtabOk', WHERE WHAT IT READS IS OF BULK AT MOST 1048576: true; the input reads as it did. -/
def fnExactVtabOkUptoRow : OpenClaim := { program := "ytnhmckiejhbmcaa", sum := "06454d545771c889cf48782560891b36ab789e0ca261a52f26455fe7f997aeae", func := "loop.example/g00326/laws.FnExactVtabOk", spec := "fnExactVtabOk", apart := false, narrowed := true }
def FnExactVtabOkUptoSaid : Prop := fnExactVtabOkUptoRow.holds Try.pinned (OpenSpec.upto fnExactVtabOkSpec)

/-- 'laws.FnExactBestVec', WHERE WHAT IT READS IS OF BULK AT MOST 1048576: true; the input reads as it did. -/
def fnExactBestVecUptoRow : OpenClaim := { program := "ytnhmckiejhbmcaa", sum := "06454d545771c889cf48782560891b36ab789e0ca261a52f26455fe7f997aeae", func := "loop.example/g00326/laws.FnExactBestVec", spec := "fnExactBestVec", apart := false, narrowed := true }
def FnExactBestVecUptoSaid : Prop := fnExactBestVecUptoRow.holds Try.pinned (OpenSpec.upto fnExactBestVecSpec)

/-- 'laws.FnExactSayVec', WHERE WHAT IT READS IS OF BULK AT MOST 1048576: true; the input reads as it did. -/
def fnExactSayVecUptoRow : OpenClaim := { program := "ytnhmckiejhbmcaa", sum := "06454d545771c889cf48782560891b36ab789e0ca261a52f26455fe7f997aeae", func := "loop.example/g00326/laws.FnExactSayVec", spec := "fnExactSayVec", apart := false, narrowed := true }
def FnExactSayVecUptoSaid : Prop := fnExactSayVecUptoRow.holds Try.pinned (OpenSpec.upto fnExactSayVecSpec)

/-- 'laws.FnRoles', WHERE WHAT IT READS IS OF BULK AT MOST 1048576: true; the input reads as it did. -/
def fnRolesUptoRow : OpenClaim := { program := "ytnhmckiejhbmcaa", sum := "06454d545771c889cf48782560891b36ab789e0ca261a52f26455fe7f997aeae", func := "loop.example/g00326/laws.FnRoles", spec := "fnRoles", apart := false, narrowed := true }
def FnRolesUptoSaid : Prop := fnRolesUptoRow.holds Try.pinned (OpenSpec.upto fnRolesSpec)

/-- 'laws.FnExactRoleOf', WHERE WHAT IT READS IS OF BULK AT MOST 1048576: true; the input reads as it did. -/
def fnExactRoleOfUptoRow : OpenClaim := { program := "ytnhmckiejhbmcaa", sum := "06454d545771c889cf48782560891b36ab789e0ca261a52f26455fe7f997aeae", func := "loop.example/g00326/laws.FnExactRoleOf", spec := "fnExactRoleOf", apart := false, narrowed := true }
def FnExactRoleOfUptoSaid : Prop := fnExactRoleOfUptoRow.holds Try.pinned (OpenSpec.upto fnExactRoleOfSpec)

/-- 'laws.FnExactSends', WHERE WHAT IT READS IS OF BULK AT MOST 1048576: true; the input reads as it did. -/
def fnExactSendsUptoRow : OpenClaim := { program := "ytnhmckiejhbmcaa", sum := "06454d545771c889cf48782560891b36ab789e0ca261a52f26455fe7f997aeae", func := "loop.example/g00326/laws.FnExactSends", spec := "fnExactSends", apart := false, narrowed := true }
def FnExactSendsUptoSaid : Prop := fnExactSendsUptoRow.holds Try.pinned (OpenSpec.upto fnExactSendsSpec)

/-- 'laws.FnClasses', WHERE WHAT IT READS IS OF BULK AT MOST 1048576: true; the input reads as it did. -/
def fnClassesUptoRow : OpenClaim := { program := "ytnhmckiejhbmcaa", sum := "06454d545771c889cf48782560891b36ab789e0ca261a52f26455fe7f997aeae", func := "loop.example/g00326/laws.FnClasses", spec := "fnClasses", apart := false, narrowed := true }
def FnClassesUptoSaid : Prop := fnClassesUptoRow.holds Try.pinned (OpenSpec.upto fnClassesSpec)

end Rows
end Go.Proofs.Ytnhmckiejhbmcaa
