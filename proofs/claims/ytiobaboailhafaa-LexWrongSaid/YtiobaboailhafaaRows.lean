/-
  No cell of these rows narrows 'for every input' (looked for: loops, veiled, ifaces, maps, wideKeys, modest, calm, conditions, laid).
  DERIVED. THE GIVEN ROWS OF THIS SEAT. 5 by the template 'for every input the law returns true; each argument reads behind the call as it read before'; 0 by the template 'total and deterministic' (their statements: YtiobaboailhafaaTotals.lean).
  GIVEN WITH THE SEED: the statements are not yours to turn. If you find one false, say at which input.
  Laid BY PROGRAM, IN A SANDBOX (cutbox-rows.mjs): the forced cells as the released guide's own fill.sh prints them over the translation b343108f30a0661d… (all of the seat's roots in one cut). By AI agents, Wed Nov 11 2026. No macro, syntax, notation, axiom, sorry.
-/
import Derived.Test.YtiobaboailhafaaChecked
import GoSem.Claim
import GoSem.ClaimJoined
import GoSem.ClaimMapViews
import Derived.JoinedTies
import Derived.KernelRfl
namespace Go.Proofs.Ytiobaboailhafaa
/- THE CELL 'sum', in the pinned program and in every row, IS THE sha256 OF THE DUMP (.gsa) THAT YtiobaboailhafaaProg.lean LOADS. Nothing in Lean hashes anything: it is a label: what it is worth is what the hold of that sum in a sandbox is worth. -/
noncomputable def Try.pinned : Pinned := { name := "ytiobaboailhafaa", sum := "b343108f30a0661d735b1363444ab77b4ef70367bbea42f6f7f1155e08e45cea", checked := Try.checked }
namespace Rows
def none {H : Type} : Left H := { results := [], args := [] }

/-- 'frankinglaw01.LexTells': WHATEVER THE INPUT: true; the input reads as it did. -/
def lexTellsSpec : ChangeSpec := { name := "lexTells", fn := fun _ => fun
  | [d] => { results := [.lit (.bool true)], args := [d] }
  | _ => none }
def lexTellsRow : OpenClaim := { program := "ytiobaboailhafaa", sum := "b343108f30a0661d735b1363444ab77b4ef70367bbea42f6f7f1155e08e45cea", func := "franking/frankinglaw01.LexTells", spec := "lexTells", inPlace := ["internal/bytealg.IndexByteString", "internal/bytealg.IndexString"], unfollowed := true, recurses := true, named := ["internal/bytealg.MaxLen"], apart := false }
def LexTellsSaid : Prop := lexTellsRow.holds Try.pinned (OpenSpec.ofChange lexTellsSpec)

/-- ITS FALSE NEIGHBOUR: 'it returns false'. Refute it at one input. -/
def lexTellsWrong : ChangeSpec := { name := "lexTells", fn := fun _ => fun
  | [d] => { results := [.lit (.bool false)], args := [d] }
  | _ => none }
def LexTellsWrongFalsely : Prop := lexTellsRow.holds Try.pinned (OpenSpec.ofChange lexTellsWrong)

/-- 'frankinglaw01.LexWhole': WHATEVER THE INPUT: true; the input reads as it did. -/
def lexWholeSpec : ChangeSpec := { name := "lexWhole", fn := fun _ => fun
  | [d] => { results := [.lit (.bool true)], args := [d] }
  | _ => none }
def lexWholeRow : OpenClaim := { program := "ytiobaboailhafaa", sum := "b343108f30a0661d735b1363444ab77b4ef70367bbea42f6f7f1155e08e45cea", func := "franking/frankinglaw01.LexWhole", spec := "lexWhole", inPlace := ["internal/bytealg.IndexByteString", "internal/bytealg.IndexString"], unfollowed := true, recurses := true, named := ["internal/bytealg.MaxLen"], apart := false }
def LexWholeSaid : Prop := lexWholeRow.holds Try.pinned (OpenSpec.ofChange lexWholeSpec)

/-- ITS FALSE NEIGHBOUR: 'it returns false'. Refute it at one input. -/
def lexWholeWrong : ChangeSpec := { name := "lexWhole", fn := fun _ => fun
  | [d] => { results := [.lit (.bool false)], args := [d] }
  | _ => none }
def LexWholeWrongFalsely : Prop := lexWholeRow.holds Try.pinned (OpenSpec.ofChange lexWholeWrong)

/-- 'frankinglaw01.LexRules': WHATEVER THE INPUT: true; the input reads as it did. -/
def lexRulesSpec : ChangeSpec := { name := "lexRules", fn := fun _ => fun
  | [d1, d2] => { results := [.lit (.bool true)], args := [d1, d2] }
  | _ => none }
def lexRulesRow : OpenClaim := { program := "ytiobaboailhafaa", sum := "b343108f30a0661d735b1363444ab77b4ef70367bbea42f6f7f1155e08e45cea", func := "franking/frankinglaw01.LexRules", spec := "lexRules", inPlace := ["internal/bytealg.IndexByteString", "internal/bytealg.IndexString"], unfollowed := true, recurses := true, named := ["internal/bytealg.MaxLen"], apart := false }
def LexRulesSaid : Prop := lexRulesRow.holds Try.pinned (OpenSpec.ofChange lexRulesSpec)

/-- ITS FALSE NEIGHBOUR: 'it returns false'. Refute it at one input. -/
def lexRulesWrong : ChangeSpec := { name := "lexRules", fn := fun _ => fun
  | [d1, d2] => { results := [.lit (.bool false)], args := [d1, d2] }
  | _ => none }
def LexRulesWrongFalsely : Prop := lexRulesRow.holds Try.pinned (OpenSpec.ofChange lexRulesWrong)

/-- 'frankinglaw01.LexFolds': WHATEVER THE INPUT: true; the input reads as it did. -/
def lexFoldsSpec : ChangeSpec := { name := "lexFolds", fn := fun _ => fun
  | [d1, d2, d3] => { results := [.lit (.bool true)], args := [d1, d2, d3] }
  | _ => none }
def lexFoldsRow : OpenClaim := { program := "ytiobaboailhafaa", sum := "b343108f30a0661d735b1363444ab77b4ef70367bbea42f6f7f1155e08e45cea", func := "franking/frankinglaw01.LexFolds", spec := "lexFolds", inPlace := ["internal/bytealg.IndexByteString", "internal/bytealg.IndexString"], unfollowed := true, recurses := true, named := ["internal/bytealg.MaxLen"], apart := false }
def LexFoldsSaid : Prop := lexFoldsRow.holds Try.pinned (OpenSpec.ofChange lexFoldsSpec)

/-- ITS FALSE NEIGHBOUR: 'it returns false'. Refute it at one input. -/
def lexFoldsWrong : ChangeSpec := { name := "lexFolds", fn := fun _ => fun
  | [d1, d2, d3] => { results := [.lit (.bool false)], args := [d1, d2, d3] }
  | _ => none }
def LexFoldsWrongFalsely : Prop := lexFoldsRow.holds Try.pinned (OpenSpec.ofChange lexFoldsWrong)

/-- 'frankinglaw01.LexWrong': WHATEVER THE INPUT: true; the input reads as it did. -/
def lexWrongSpec : ChangeSpec := { name := "lexWrong", fn := fun _ => fun
  | [d1, d2, d3] => { results := [.lit (.bool true)], args := [d1, d2, d3] }
  | _ => none }
def lexWrongRow : OpenClaim := { program := "ytiobaboailhafaa", sum := "b343108f30a0661d735b1363444ab77b4ef70367bbea42f6f7f1155e08e45cea", func := "franking/frankinglaw01.LexWrong", spec := "lexWrong", inPlace := ["internal/bytealg.IndexByteString", "internal/bytealg.IndexString", "internal/abi.NoEscape", "internal/bytealg.MakeNoZero"], unfollowed := true, recurses := true, named := ["internal/bytealg.MaxLen"], apart := false }
def LexWrongSaid : Prop := lexWrongRow.holds Try.pinned (OpenSpec.ofChange lexWrongSpec)

/-- ITS FALSE NEIGHBOUR: 'it returns false'. Refute it at one input. -/
def lexWrongWrong : ChangeSpec := { name := "lexWrong", fn := fun _ => fun
  | [d1, d2, d3] => { results := [.lit (.bool false)], args := [d1, d2, d3] }
  | _ => none }
def LexWrongWrongFalsely : Prop := lexWrongRow.holds Try.pinned (OpenSpec.ofChange lexWrongWrong)

/- THE SECOND FORM. 'bulk': how many values and letters a reading holds, each counted each time it is reached (what is shared counts as often as it is met; a slice's spare places count too). A statement '..UptoSaid' is the law's where the arguments, and the package variables that the reading takes, are together of bulk at most 1048576: NARROWER than '..Said'. Prove '..Said' where nothing that the law and all that it calls make is longer than what came in: it says more and counts as full. Else prove '..UptoSaid'. A law counts once. -/
mutual
def uptoBulk {H : Type} : DataW H → Nat
  | .lit (.string bytes) => bytes.length + 1
  | .lit _ => 1
  | .nil => 1
  | .ptr d => uptoBulk d + 1
  | .slice elems spare => uptoBulkAll elems + uptoBulkAll spare + 1
  | .agg parts => uptoBulkAll parts + 1
  | .iface _ d => uptoBulk d + 1
  | .map entries => uptoBulkEntries entries + 1
  | .held _ => 1
def uptoBulkAll {H : Type} : List (DataW H) → Nat
  | [] => 0
  | d :: r => uptoBulk d + uptoBulkAll r
def uptoBulkEntries {H : Type} : List (Lit × DataW H) → Nat
  | [] => 0
  | x :: r => uptoBulkEntry x + uptoBulkEntries r
def uptoBulkEntry {H : Type} : Lit × DataW H → Nat
  | (.string bytes, d) => bytes.length + uptoBulk d + 1
  | (_, d) => uptoBulk d + 1
 end
def uptoSmall : (H : Type) → List (DataW H) → Bool := fun _ ds => decide (uptoBulkAll ds ≤ 1048576)
def OpenSpec.upto (s : _root_.Go.ChangeSpec) : _root_.Go.OpenSpec := { _root_.Go.OpenSpec.ofChange s with cond := some uptoSmall }

/-- 'frankinglaw01.LexTells', WHERE WHAT IT READS IS OF BULK AT MOST 1048576: true; the input reads as it did. -/
def lexTellsUptoRow : OpenClaim := { program := "ytiobaboailhafaa", sum := "b343108f30a0661d735b1363444ab77b4ef70367bbea42f6f7f1155e08e45cea", func := "franking/frankinglaw01.LexTells", spec := "lexTells", inPlace := ["internal/bytealg.IndexByteString", "internal/bytealg.IndexString"], unfollowed := true, recurses := true, named := ["internal/bytealg.MaxLen"], apart := false, narrowed := true }
def LexTellsUptoSaid : Prop := lexTellsUptoRow.holds Try.pinned (OpenSpec.upto lexTellsSpec)

/-- 'frankinglaw01.LexWhole', WHERE WHAT IT READS IS OF BULK AT MOST 1048576: true; the input reads as it did. -/
def lexWholeUptoRow : OpenClaim := { program := "ytiobaboailhafaa", sum := "b343108f30a0661d735b1363444ab77b4ef70367bbea42f6f7f1155e08e45cea", func := "franking/frankinglaw01.LexWhole", spec := "lexWhole", inPlace := ["internal/bytealg.IndexByteString", "internal/bytealg.IndexString"], unfollowed := true, recurses := true, named := ["internal/bytealg.MaxLen"], apart := false, narrowed := true }
def LexWholeUptoSaid : Prop := lexWholeUptoRow.holds Try.pinned (OpenSpec.upto lexWholeSpec)

/-- 'frankinglaw01.LexRules', WHERE WHAT IT READS IS OF BULK AT MOST 1048576: true; the input reads as it did. -/
def lexRulesUptoRow : OpenClaim := { program := "ytiobaboailhafaa", sum := "b343108f30a0661d735b1363444ab77b4ef70367bbea42f6f7f1155e08e45cea", func := "franking/frankinglaw01.LexRules", spec := "lexRules", inPlace := ["internal/bytealg.IndexByteString", "internal/bytealg.IndexString"], unfollowed := true, recurses := true, named := ["internal/bytealg.MaxLen"], apart := false, narrowed := true }
def LexRulesUptoSaid : Prop := lexRulesUptoRow.holds Try.pinned (OpenSpec.upto lexRulesSpec)

/-- 'frankinglaw01.LexFolds', WHERE WHAT IT READS IS OF BULK AT MOST 1048576: true; the input reads as it did. -/
def lexFoldsUptoRow : OpenClaim := { program := "ytiobaboailhafaa", sum := "b343108f30a0661d735b1363444ab77b4ef70367bbea42f6f7f1155e08e45cea", func := "franking/frankinglaw01.LexFolds", spec := "lexFolds", inPlace := ["internal/bytealg.IndexByteString", "internal/bytealg.IndexString"], unfollowed := true, recurses := true, named := ["internal/bytealg.MaxLen"], apart := false, narrowed := true }
def LexFoldsUptoSaid : Prop := lexFoldsUptoRow.holds Try.pinned (OpenSpec.upto lexFoldsSpec)

/-- 'frankinglaw01.LexWrong', WHERE WHAT IT READS IS OF BULK AT MOST 1048576: true; the input reads as it did. -/
def lexWrongUptoRow : OpenClaim := { program := "ytiobaboailhafaa", sum := "b343108f30a0661d735b1363444ab77b4ef70367bbea42f6f7f1155e08e45cea", func := "franking/frankinglaw01.LexWrong", spec := "lexWrong", inPlace := ["internal/bytealg.IndexByteString", "internal/bytealg.IndexString", "internal/abi.NoEscape", "internal/bytealg.MakeNoZero"], unfollowed := true, recurses := true, named := ["internal/bytealg.MaxLen"], apart := false, narrowed := true }
def LexWrongUptoSaid : Prop := lexWrongUptoRow.holds Try.pinned (OpenSpec.upto lexWrongSpec)

end Rows
end Go.Proofs.Ytiobaboailhafaa
