/-
  No cell of these rows narrows 'for every input' (looked for: loops, veiled, ifaces, maps, wideKeys, modest, calm, conditions, laid).
  DERIVED. THE GIVEN ROWS OF THIS SEAT. 3 by the template 'for every input the law returns true; each argument reads behind the call as it read before'; 0 by the template 'total and deterministic' (their statements: YtgehalfnpbjjcaaTotals.lean).
  GIVEN WITH THE SEED: the statements are not yours to turn. If you find one false, say at which input.
  Laid BY PROGRAM, IN A SANDBOX (cutbox-rows.mjs): the forced cells as the released guide's own fill.sh prints them over the translation 6a21d217ecb74f08… (all of the seat's roots in one cut). By AI agents, Wed Nov 11 2026. No macro, syntax, notation, axiom, sorry.
-/
import Derived.Test.YtgehalfnpbjjcaaChecked
import GoSem.Claim
import GoSem.ClaimJoined
import GoSem.ClaimMapViews
import Derived.JoinedTies
import Derived.KernelRfl
namespace Go.Proofs.Ytgehalfnpbjjcaa
/- THE CELL 'sum', in the pinned program and in every row, IS THE sha256 OF THE DUMP (.gsa) THAT YtgehalfnpbjjcaaProg.lean LOADS. Nothing in Lean hashes anything: it is a label: what it is worth is what the hold of that sum in a sandbox is worth. -/
noncomputable def Try.pinned : Pinned := { name := "ytgehalfnpbjjcaa", sum := "6a21d217ecb74f083c3ab2c34cc9a56beeffa14a728e5fb1d308d923e8ba5808", checked := Try.checked }
namespace Rows
def none {H : Type} : Left H := { results := [], args := [] }

/-- 'hayloftlaw06.SimfsNames': WHATEVER THE INPUT: true; the input reads as it did. -/
def simfsNamesSpec : ChangeSpec := { name := "simfsNames", fn := fun _ => fun
  | [d1, d2] => { results := [.lit (.bool true)], args := [d1, d2] }
  | _ => none }
def simfsNamesRow : OpenClaim := { program := "ytgehalfnpbjjcaa", sum := "6a21d217ecb74f083c3ab2c34cc9a56beeffa14a728e5fb1d308d923e8ba5808", func := "hayloft/hayloftlaw06.SimfsNames", spec := "simfsNames", inPlace := ["sync/atomic.AddInt64", "sync/atomic.LoadInt64", "sync/atomic.StoreInt64", "maps.clone"], unfollowed := true, recurses := true, apart := false }
def SimfsNamesSaid : Prop := simfsNamesRow.holds Try.pinned (OpenSpec.ofChange simfsNamesSpec)

/-- ITS FALSE NEIGHBOUR: 'it returns false'. Refute it at one input. -/
def simfsNamesWrong : ChangeSpec := { name := "simfsNames", fn := fun _ => fun
  | [d1, d2] => { results := [.lit (.bool false)], args := [d1, d2] }
  | _ => none }
def SimfsNamesWrongFalsely : Prop := simfsNamesRow.holds Try.pinned (OpenSpec.ofChange simfsNamesWrong)

/-- 'hayloftlaw06.SimfsSafe': WHATEVER THE INPUT: true; the input reads as it did. -/
def simfsSafeSpec : ChangeSpec := { name := "simfsSafe", fn := fun _ => fun
  | [d1, d2, d3, d4, d5, d6] => { results := [.lit (.bool true)], args := [d1, d2, d3, d4, d5, d6] }
  | _ => none }
def simfsSafeRow : OpenClaim := { program := "ytgehalfnpbjjcaa", sum := "6a21d217ecb74f083c3ab2c34cc9a56beeffa14a728e5fb1d308d923e8ba5808", func := "hayloft/hayloftlaw06.SimfsSafe", spec := "simfsSafe", inPlace := ["sync/atomic.AddInt64", "sync/atomic.LoadInt64", "sync/atomic.StoreInt64", "maps.clone"], unfollowed := true, recurses := true, apart := false }
def SimfsSafeSaid : Prop := simfsSafeRow.holds Try.pinned (OpenSpec.ofChange simfsSafeSpec)

/-- ITS FALSE NEIGHBOUR: 'it returns false'. Refute it at one input. -/
def simfsSafeWrong : ChangeSpec := { name := "simfsSafe", fn := fun _ => fun
  | [d1, d2, d3, d4, d5, d6] => { results := [.lit (.bool false)], args := [d1, d2, d3, d4, d5, d6] }
  | _ => none }
def SimfsSafeWrongFalsely : Prop := simfsSafeRow.holds Try.pinned (OpenSpec.ofChange simfsSafeWrong)

/-- 'hayloftlaw06.SimfsArms': WHATEVER THE INPUT: true; the input reads as it did. -/
def simfsArmsSpec : ChangeSpec := { name := "simfsArms", fn := fun _ => fun
  | [d1, d2] => { results := [.lit (.bool true)], args := [d1, d2] }
  | _ => none }
def simfsArmsRow : OpenClaim := { program := "ytgehalfnpbjjcaa", sum := "6a21d217ecb74f083c3ab2c34cc9a56beeffa14a728e5fb1d308d923e8ba5808", func := "hayloft/hayloftlaw06.SimfsArms", spec := "simfsArms", inPlace := ["sync/atomic.AddInt64", "sync/atomic.LoadInt64", "sync/atomic.StoreInt64", "maps.clone"], unfollowed := true, recurses := true, apart := false }
def SimfsArmsSaid : Prop := simfsArmsRow.holds Try.pinned (OpenSpec.ofChange simfsArmsSpec)

/-- ITS FALSE NEIGHBOUR: 'it returns false'. Refute it at one input. -/
def simfsArmsWrong : ChangeSpec := { name := "simfsArms", fn := fun _ => fun
  | [d1, d2] => { results := [.lit (.bool false)], args := [d1, d2] }
  | _ => none }
def SimfsArmsWrongFalsely : Prop := simfsArmsRow.holds Try.pinned (OpenSpec.ofChange simfsArmsWrong)

/- THE SECOND FORM. 'bulk': how many values and letters a reading holds, each counted each time it is reached (what is shared counts as often as it is met; a slice's spare places count too). A statement '..UptoSaid' is the law's where the arguments, and the package variables that the reading takes, are together of bulk at most 1048576: NARROWER than '..Said'. Prove '..Said' where nothing that the law and all that it calls make is longer than what came in: it says more and counts as full. Else prove '..UptoSaid'. A law counts once. -/
mutual
def uptoBulk {H : Type} : DataW H → Nat
  | .lit (.string bytes) => bytes.length + 1
  | .lit _ => 1
  | .nil => 1
  | .ptr d => uptoBulk d + 1
  | .slice elems spare => uptoBulkAll elems + uptoBulkAll spare + 1
  | .agg parts => uptoBulkAll parts + 1
  | .iface _ d => uptoBulk d + 1
  | .map entries => uptoBulkEntries entries + 1
  | .held _ => 1
def uptoBulkAll {H : Type} : List (DataW H) → Nat
  | [] => 0
  | d :: r => uptoBulk d + uptoBulkAll r
def uptoBulkEntries {H : Type} : List (Lit × DataW H) → Nat
  | [] => 0
  | x :: r => uptoBulkEntry x + uptoBulkEntries r
def uptoBulkEntry {H : Type} : Lit × DataW H → Nat
  | (.string bytes, d) => bytes.length + uptoBulk d + 1
  | (_, d) => uptoBulk d + 1
 end
def uptoSmall : (H : Type) → List (DataW H) → Bool := fun _ ds => decide (uptoBulkAll ds ≤ 1048576)
def OpenSpec.upto (s : _root_.Go.ChangeSpec) : _root_.Go.OpenSpec := { _root_.Go.OpenSpec.ofChange s with cond := some uptoSmall }

/-- 'hayloftlaw06.SimfsNames', WHERE WHAT IT READS IS OF BULK AT MOST 1048576: true; the input reads as it did. -/
def simfsNamesUptoRow : OpenClaim := { program := "ytgehalfnpbjjcaa", sum := "6a21d217ecb74f083c3ab2c34cc9a56beeffa14a728e5fb1d308d923e8ba5808", func := "hayloft/hayloftlaw06.SimfsNames", spec := "simfsNames", inPlace := ["sync/atomic.AddInt64", "sync/atomic.LoadInt64", "sync/atomic.StoreInt64", "maps.clone"], unfollowed := true, recurses := true, apart := false, narrowed := true }
def SimfsNamesUptoSaid : Prop := simfsNamesUptoRow.holds Try.pinned (OpenSpec.upto simfsNamesSpec)

/-- 'hayloftlaw06.SimfsSafe', WHERE WHAT IT READS IS OF BULK AT MOST 1048576: true; the input reads as it did. -/
def simfsSafeUptoRow : OpenClaim := { program := "ytgehalfnpbjjcaa", sum := "6a21d217ecb74f083c3ab2c34cc9a56beeffa14a728e5fb1d308d923e8ba5808", func := "hayloft/hayloftlaw06.SimfsSafe", spec := "simfsSafe", inPlace := ["sync/atomic.AddInt64", "sync/atomic.LoadInt64", "sync/atomic.StoreInt64", "maps.clone"], unfollowed := true, recurses := true, apart := false, narrowed := true }
def SimfsSafeUptoSaid : Prop := simfsSafeUptoRow.holds Try.pinned (OpenSpec.upto simfsSafeSpec)

/-- 'hayloftlaw06.SimfsArms', WHERE WHAT IT READS IS OF BULK AT MOST 1048576: true; the input reads as it did. -/
def simfsArmsUptoRow : OpenClaim := { program := "ytgehalfnpbjjcaa", sum := "6a21d217ecb74f083c3ab2c34cc9a56beeffa14a728e5fb1d308d923e8ba5808", func := "hayloft/hayloftlaw06.SimfsArms", spec := "simfsArms", inPlace := ["sync/atomic.AddInt64", "sync/atomic.LoadInt64", "sync/atomic.StoreInt64", "maps.clone"], unfollowed := true, recurses := true, apart := false, narrowed := true }
def SimfsArmsUptoSaid : Prop := simfsArmsUptoRow.holds Try.pinned (OpenSpec.upto simfsArmsSpec)

end Rows
end Go.Proofs.Ytgehalfnpbjjcaa
