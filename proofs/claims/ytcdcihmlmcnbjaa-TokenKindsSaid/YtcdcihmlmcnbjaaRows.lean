/-
  No cell of these rows narrows 'for every input' (looked for: loops, veiled, ifaces, maps, wideKeys, modest, calm, conditions, laid).
  DERIVED. THE GIVEN ROWS OF THIS SEAT. 4 by the template 'for every input the law returns true; each argument reads behind the call as it read before'; 0 by the template 'total and deterministic' (their statements: YtcdcihmlmcnbjaaTotals.lean).
  GIVEN WITH THE SEED: the statements are not yours to turn. If you find one false, say at which input.
  Laid BY PROGRAM, IN A SANDBOX (cutbox-rows.mjs): the forced cells as the released guide's own fill.sh prints them over the translation d668e3a4b703e821… (all of the seat's roots in one cut). By AI agents, Wed Nov 11 2026. No macro, syntax, notation, axiom, sorry.
-/
import Derived.Test.YtcdcihmlmcnbjaaChecked
import GoSem.Claim
import GoSem.ClaimJoined
import GoSem.ClaimMapViews
import Derived.JoinedTies
import Derived.KernelRfl
namespace Go.Proofs.Ytcdcihmlmcnbjaa
/- THE CELL 'sum', in the pinned program and in every row, IS THE sha256 OF THE DUMP (.gsa) THAT YtcdcihmlmcnbjaaProg.lean LOADS. Nothing in Lean hashes anything: it is a label: what it is worth is what the hold of that sum in a sandbox is worth. -/
noncomputable def Try.pinned : Pinned := { name := "ytcdcihmlmcnbjaa", sum := "d668e3a4b703e821c1b275a9d74c0ef5ae2269bbf11eacff9bb02195bf67c089", checked := Try.checked }
namespace Rows
def none {H : Type} : Left H := { results := [], args := [] }

/-- 'cavillaw06.TokenOperators': WHATEVER THE INPUT: true; the input reads as it did. -/
def tokenOperatorsSpec : ChangeSpec := { name := "tokenOperators", fn := fun _ => fun
  | [d1, d2] => { results := [.lit (.bool true)], args := [d1, d2] }
  | _ => none }
def tokenOperatorsRow : OpenClaim := { program := "ytcdcihmlmcnbjaa", sum := "d668e3a4b703e821c1b275a9d74c0ef5ae2269bbf11eacff9bb02195bf67c089", func := "cavil/cavillaw06.TokenOperators", spec := "tokenOperators", apart := false }
def TokenOperatorsSaid : Prop := tokenOperatorsRow.holds Try.pinned (OpenSpec.ofChange tokenOperatorsSpec)

/-- ITS FALSE NEIGHBOUR: 'it returns false'. Refute it at one input. -/
def tokenOperatorsWrong : ChangeSpec := { name := "tokenOperators", fn := fun _ => fun
  | [d1, d2] => { results := [.lit (.bool false)], args := [d1, d2] }
  | _ => none }
def TokenOperatorsWrongFalsely : Prop := tokenOperatorsRow.holds Try.pinned (OpenSpec.ofChange tokenOperatorsWrong)

/-- 'cavillaw06.TokenLongest': WHATEVER THE INPUT: true; the input reads as it did. -/
def tokenLongestSpec : ChangeSpec := { name := "tokenLongest", fn := fun _ => fun
  | [d1, d2] => { results := [.lit (.bool true)], args := [d1, d2] }
  | _ => none }
def tokenLongestRow : OpenClaim := { program := "ytcdcihmlmcnbjaa", sum := "d668e3a4b703e821c1b275a9d74c0ef5ae2269bbf11eacff9bb02195bf67c089", func := "cavil/cavillaw06.TokenLongest", spec := "tokenLongest", apart := false }
def TokenLongestSaid : Prop := tokenLongestRow.holds Try.pinned (OpenSpec.ofChange tokenLongestSpec)

/-- ITS FALSE NEIGHBOUR: 'it returns false'. Refute it at one input. -/
def tokenLongestWrong : ChangeSpec := { name := "tokenLongest", fn := fun _ => fun
  | [d1, d2] => { results := [.lit (.bool false)], args := [d1, d2] }
  | _ => none }
def TokenLongestWrongFalsely : Prop := tokenLongestRow.holds Try.pinned (OpenSpec.ofChange tokenLongestWrong)

/-- 'cavillaw06.TokenBack': WHATEVER THE INPUT: true; the input reads as it did. -/
def tokenBackSpec : ChangeSpec := { name := "tokenBack", fn := fun _ => fun
  | [d1, d2] => { results := [.lit (.bool true)], args := [d1, d2] }
  | _ => none }
def tokenBackRow : OpenClaim := { program := "ytcdcihmlmcnbjaa", sum := "d668e3a4b703e821c1b275a9d74c0ef5ae2269bbf11eacff9bb02195bf67c089", func := "cavil/cavillaw06.TokenBack", spec := "tokenBack", apart := false }
def TokenBackSaid : Prop := tokenBackRow.holds Try.pinned (OpenSpec.ofChange tokenBackSpec)

/-- ITS FALSE NEIGHBOUR: 'it returns false'. Refute it at one input. -/
def tokenBackWrong : ChangeSpec := { name := "tokenBack", fn := fun _ => fun
  | [d1, d2] => { results := [.lit (.bool false)], args := [d1, d2] }
  | _ => none }
def TokenBackWrongFalsely : Prop := tokenBackRow.holds Try.pinned (OpenSpec.ofChange tokenBackWrong)

/-- 'cavillaw06.TokenKinds': WHATEVER THE INPUT: true; the input reads as it did. -/
def tokenKindsSpec : ChangeSpec := { name := "tokenKinds", fn := fun _ => fun
  | [d1, d2] => { results := [.lit (.bool true)], args := [d1, d2] }
  | _ => none }
def tokenKindsRow : OpenClaim := { program := "ytcdcihmlmcnbjaa", sum := "d668e3a4b703e821c1b275a9d74c0ef5ae2269bbf11eacff9bb02195bf67c089", func := "cavil/cavillaw06.TokenKinds", spec := "tokenKinds", apart := false }
def TokenKindsSaid : Prop := tokenKindsRow.holds Try.pinned (OpenSpec.ofChange tokenKindsSpec)

/-- ITS FALSE NEIGHBOUR: 'it returns false'. Refute it at one input. -/
def tokenKindsWrong : ChangeSpec := { name := "tokenKinds", fn := fun _ => fun
  | [d1, d2] => { results := [.lit (.bool false)], args := [d1, d2] }
  | _ => none }
def TokenKindsWrongFalsely : Prop := tokenKindsRow.holds Try.pinned (OpenSpec.ofChange tokenKindsWrong)

/- THE SECOND FORM. 'bulk': how many values and letters a reading holds, each counted each time it is reached (what is shared counts as often as it is met; a slice's spare places count too). A statement '..UptoSaid' is the law's where the arguments, and the package variables that the reading takes, are together of bulk at most 1048576: NARROWER than '..Said'. Prove '..Said' where nothing that the law and all that it calls make is longer than what came in: it says more and counts as full. Else prove '..UptoSaid'. A law counts once. -/
mutual
def uptoBulk {H : Type} : DataW H → Nat
  | .lit (.string bytes) => bytes.length + 1
  | .lit _ => 1
  | .nil => 1
  | .ptr d => uptoBulk d + 1
  | .slice elems spare => uptoBulkAll elems + uptoBulkAll spare + 1
  | .agg parts => uptoBulkAll parts + 1
  | .iface _ d => uptoBulk d + 1
  | .map entries => uptoBulkEntries entries + 1
  | .held _ => 1
def uptoBulkAll {H : Type} : List (DataW H) → Nat
  | [] => 0
  | d :: r => uptoBulk d + uptoBulkAll r
def uptoBulkEntries {H : Type} : List (Lit × DataW H) → Nat
  | [] => 0
  | x :: r => uptoBulkEntry x + uptoBulkEntries r
def uptoBulkEntry {H : Type} : Lit × DataW H → Nat
  | (.string bytes, d) => bytes.length + uptoBulk d + 1
  | (_, d) => uptoBulk d + 1
 end
def uptoSmall : (H : Type) → List (DataW H) → Bool := fun _ ds => decide (uptoBulkAll ds ≤ 1048576)
def OpenSpec.upto (s : _root_.Go.ChangeSpec) : _root_.Go.OpenSpec := { _root_.Go.OpenSpec.ofChange s with cond := some uptoSmall }

/-- 'cavillaw06.TokenOperators', WHERE WHAT IT READS IS OF BULK AT MOST 1048576: true; the input reads as it did. -/
def tokenOperatorsUptoRow : OpenClaim := { program := "ytcdcihmlmcnbjaa", sum := "d668e3a4b703e821c1b275a9d74c0ef5ae2269bbf11eacff9bb02195bf67c089", func := "cavil/cavillaw06.TokenOperators", spec := "tokenOperators", apart := false, narrowed := true }
def TokenOperatorsUptoSaid : Prop := tokenOperatorsUptoRow.holds Try.pinned (OpenSpec.upto tokenOperatorsSpec)

/-- 'cavillaw06.TokenLongest', WHERE WHAT IT READS IS OF BULK AT MOST 1048576: true; the input reads as it did. -/
def tokenLongestUptoRow : OpenClaim := { program := "ytcdcihmlmcnbjaa", sum := "d668e3a4b703e821c1b275a9d74c0ef5ae2269bbf11eacff9bb02195bf67c089", func := "cavil/cavillaw06.TokenLongest", spec := "tokenLongest", apart := false, narrowed := true }
def TokenLongestUptoSaid : Prop := tokenLongestUptoRow.holds Try.pinned (OpenSpec.upto tokenLongestSpec)

/-- 'cavillaw06.TokenBack', WHERE WHAT IT READS IS OF BULK AT MOST 1048576: true; the input reads as it did. -/
def tokenBackUptoRow : OpenClaim := { program := "ytcdcihmlmcnbjaa", sum := "d668e3a4b703e821c1b275a9d74c0ef5ae2269bbf11eacff9bb02195bf67c089", func := "cavil/cavillaw06.TokenBack", spec := "tokenBack", apart := false, narrowed := true }
def TokenBackUptoSaid : Prop := tokenBackUptoRow.holds Try.pinned (OpenSpec.upto tokenBackSpec)

/-- 'cavillaw06.TokenKinds', WHERE WHAT IT READS IS OF BULK AT MOST 1048576: true; the input reads as it did. -/
def tokenKindsUptoRow : OpenClaim := { program := "ytcdcihmlmcnbjaa", sum := "d668e3a4b703e821c1b275a9d74c0ef5ae2269bbf11eacff9bb02195bf67c089", func := "cavil/cavillaw06.TokenKinds", spec := "tokenKinds", apart := false, narrowed := true }
def TokenKindsUptoSaid : Prop := tokenKindsUptoRow.holds Try.pinned (OpenSpec.upto tokenKindsSpec)

end Rows
end Go.Proofs.Ytcdcihmlmcnbjaa
