/-
  No cell of these rows narrows 'for every input' (looked for: loops, veiled, ifaces, maps, wideKeys, modest, calm, conditions, laid).
  DERIVED. THE GIVEN ROWS OF THIS SEAT. 10 by the template 'for every input the law returns true; each argument reads behind the call as it read before'; 0 by the template 'total and deterministic' (their statements: YtiggefmckomilaaTotals.lean).
  GIVEN WITH THE SEED: the statements are not yours to turn. If you find one false, say at which input.
  Laid BY PROGRAM, IN A SANDBOX (cutbox-rows.mjs): the forced cells as the released guide's own fill.sh prints them over the translation f8d1070c9de6abe4… (all of the seat's roots in one cut). By AI agents, Wed Nov 11 2026. No macro, syntax, notation, axiom, sorry.
-/
import Derived.Test.YtiggefmckomilaaChecked
import GoSem.Claim
import GoSem.ClaimJoined
import GoSem.ClaimMapViews
import Derived.JoinedTies
import Derived.KernelRfl
namespace Go.Proofs.Ytiggefmckomilaa
/- THE CELL 'sum', in the pinned program and in every row, IS THE sha256 OF THE DUMP (.gsa) THAT YtiggefmckomilaaProg.lean LOADS. Nothing in Lean hashes anything: it is a label: what it is worth is what the hold of that sum in a sandbox is worth. -/
noncomputable def Try.pinned : Pinned := { name := "ytiggefmckomilaa", sum := "f8d1070c9de6abe494650f09d37f39c66fdad2c9fe422a82489aa370d3c8eacc", checked := Try.checked }
namespace Rows
def none {H : Type} : Left H := { results := [], args := [] }

/-- 'radomelaw07.TraceCorrects': WHATEVER THE INPUT: true; the input reads as it did. -/
def traceCorrectsSpec : ChangeSpec := { name := "traceCorrects", fn := fun _ => fun
  | [d1, d2] => { results := [.lit (.bool true)], args := [d1, d2] }
  | _ => none }
def traceCorrectsRow : OpenClaim := { program := "ytiggefmckomilaa", sum := "f8d1070c9de6abe494650f09d37f39c66fdad2c9fe422a82489aa370d3c8eacc", func := "radome/radomelaw07.TraceCorrects", spec := "traceCorrects", inPlace := ["internal/bytealg.IndexByteString", "internal/bytealg.IndexString"], unfollowed := true, recurses := true, named := ["internal/bytealg.MaxLen"], apart := false }
def TraceCorrectsSaid : Prop := traceCorrectsRow.holds Try.pinned (OpenSpec.ofChange traceCorrectsSpec)

/-- ITS FALSE NEIGHBOUR: 'it returns false'. Refute it at one input. -/
def traceCorrectsWrong : ChangeSpec := { name := "traceCorrects", fn := fun _ => fun
  | [d1, d2] => { results := [.lit (.bool false)], args := [d1, d2] }
  | _ => none }
def TraceCorrectsWrongFalsely : Prop := traceCorrectsRow.holds Try.pinned (OpenSpec.ofChange traceCorrectsWrong)

/-- 'radomelaw07.TraceTruth': WHATEVER THE INPUT: true; the input reads as it did. -/
def traceTruthSpec : ChangeSpec := { name := "traceTruth", fn := fun _ => fun
  | [d1, d2, d3, d4, d5, d6, d7] => { results := [.lit (.bool true)], args := [d1, d2, d3, d4, d5, d6, d7] }
  | _ => none }
def traceTruthRow : OpenClaim := { program := "ytiggefmckomilaa", sum := "f8d1070c9de6abe494650f09d37f39c66fdad2c9fe422a82489aa370d3c8eacc", func := "radome/radomelaw07.TraceTruth", spec := "traceTruth", inPlace := ["internal/bytealg.IndexByteString", "internal/bytealg.IndexString"], unfollowed := true, recurses := true, named := ["internal/bytealg.MaxLen"], apart := false }
def TraceTruthSaid : Prop := traceTruthRow.holds Try.pinned (OpenSpec.ofChange traceTruthSpec)

/-- ITS FALSE NEIGHBOUR: 'it returns false'. Refute it at one input. -/
def traceTruthWrong : ChangeSpec := { name := "traceTruth", fn := fun _ => fun
  | [d1, d2, d3, d4, d5, d6, d7] => { results := [.lit (.bool false)], args := [d1, d2, d3, d4, d5, d6, d7] }
  | _ => none }
def TraceTruthWrongFalsely : Prop := traceTruthRow.holds Try.pinned (OpenSpec.ofChange traceTruthWrong)

/-- 'radomelaw07.TraceOrders': WHATEVER THE INPUT: true; the input reads as it did. -/
def traceOrdersSpec : ChangeSpec := { name := "traceOrders", fn := fun _ => fun
  | [d] => { results := [.lit (.bool true)], args := [d] }
  | _ => none }
def traceOrdersRow : OpenClaim := { program := "ytiggefmckomilaa", sum := "f8d1070c9de6abe494650f09d37f39c66fdad2c9fe422a82489aa370d3c8eacc", func := "radome/radomelaw07.TraceOrders", spec := "traceOrders", inPlace := ["internal/bytealg.IndexByteString", "internal/bytealg.IndexString"], unfollowed := true, recurses := true, named := ["internal/bytealg.MaxLen"], apart := false }
def TraceOrdersSaid : Prop := traceOrdersRow.holds Try.pinned (OpenSpec.ofChange traceOrdersSpec)

/-- ITS FALSE NEIGHBOUR: 'it returns false'. Refute it at one input. -/
def traceOrdersWrong : ChangeSpec := { name := "traceOrders", fn := fun _ => fun
  | [d] => { results := [.lit (.bool false)], args := [d] }
  | _ => none }
def TraceOrdersWrongFalsely : Prop := traceOrdersRow.holds Try.pinned (OpenSpec.ofChange traceOrdersWrong)

/-- 'radomelaw07.TraceFull': WHATEVER THE INPUT: true; the input reads as it did. -/
def traceFullSpec : ChangeSpec := { name := "traceFull", fn := fun _ => fun
  | [d1, d2, d3, d4] => { results := [.lit (.bool true)], args := [d1, d2, d3, d4] }
  | _ => none }
def traceFullRow : OpenClaim := { program := "ytiggefmckomilaa", sum := "f8d1070c9de6abe494650f09d37f39c66fdad2c9fe422a82489aa370d3c8eacc", func := "radome/radomelaw07.TraceFull", spec := "traceFull", inPlace := ["internal/bytealg.IndexByteString", "internal/bytealg.IndexString"], unfollowed := true, recurses := true, named := ["internal/bytealg.MaxLen"], apart := false }
def TraceFullSaid : Prop := traceFullRow.holds Try.pinned (OpenSpec.ofChange traceFullSpec)

/-- ITS FALSE NEIGHBOUR: 'it returns false'. Refute it at one input. -/
def traceFullWrong : ChangeSpec := { name := "traceFull", fn := fun _ => fun
  | [d1, d2, d3, d4] => { results := [.lit (.bool false)], args := [d1, d2, d3, d4] }
  | _ => none }
def TraceFullWrongFalsely : Prop := traceFullRow.holds Try.pinned (OpenSpec.ofChange traceFullWrong)

/-- 'radomelaw07.TraceBacks': WHATEVER THE INPUT: true; the input reads as it did. -/
def traceBacksSpec : ChangeSpec := { name := "traceBacks", fn := fun _ => fun
  | [d] => { results := [.lit (.bool true)], args := [d] }
  | _ => none }
def traceBacksRow : OpenClaim := { program := "ytiggefmckomilaa", sum := "f8d1070c9de6abe494650f09d37f39c66fdad2c9fe422a82489aa370d3c8eacc", func := "radome/radomelaw07.TraceBacks", spec := "traceBacks", inPlace := ["internal/bytealg.IndexByteString", "internal/bytealg.IndexString"], unfollowed := true, recurses := true, named := ["internal/bytealg.MaxLen"], apart := false }
def TraceBacksSaid : Prop := traceBacksRow.holds Try.pinned (OpenSpec.ofChange traceBacksSpec)

/-- ITS FALSE NEIGHBOUR: 'it returns false'. Refute it at one input. -/
def traceBacksWrong : ChangeSpec := { name := "traceBacks", fn := fun _ => fun
  | [d] => { results := [.lit (.bool false)], args := [d] }
  | _ => none }
def TraceBacksWrongFalsely : Prop := traceBacksRow.holds Try.pinned (OpenSpec.ofChange traceBacksWrong)

/-- 'radomelaw07.TraceWithdraws': WHATEVER THE INPUT: true; the input reads as it did. -/
def traceWithdrawsSpec : ChangeSpec := { name := "traceWithdraws", fn := fun _ => fun
  | [d1, d2] => { results := [.lit (.bool true)], args := [d1, d2] }
  | _ => none }
def traceWithdrawsRow : OpenClaim := { program := "ytiggefmckomilaa", sum := "f8d1070c9de6abe494650f09d37f39c66fdad2c9fe422a82489aa370d3c8eacc", func := "radome/radomelaw07.TraceWithdraws", spec := "traceWithdraws", inPlace := ["internal/bytealg.IndexByteString", "internal/bytealg.IndexString"], unfollowed := true, recurses := true, named := ["internal/bytealg.MaxLen"], apart := false }
def TraceWithdrawsSaid : Prop := traceWithdrawsRow.holds Try.pinned (OpenSpec.ofChange traceWithdrawsSpec)

/-- ITS FALSE NEIGHBOUR: 'it returns false'. Refute it at one input. -/
def traceWithdrawsWrong : ChangeSpec := { name := "traceWithdraws", fn := fun _ => fun
  | [d1, d2] => { results := [.lit (.bool false)], args := [d1, d2] }
  | _ => none }
def TraceWithdrawsWrongFalsely : Prop := traceWithdrawsRow.holds Try.pinned (OpenSpec.ofChange traceWithdrawsWrong)

/-- 'radomelaw07.TraceChains': WHATEVER THE INPUT: true; the input reads as it did. -/
def traceChainsSpec : ChangeSpec := { name := "traceChains", fn := fun _ => fun
  | [d1, d2] => { results := [.lit (.bool true)], args := [d1, d2] }
  | _ => none }
def traceChainsRow : OpenClaim := { program := "ytiggefmckomilaa", sum := "f8d1070c9de6abe494650f09d37f39c66fdad2c9fe422a82489aa370d3c8eacc", func := "radome/radomelaw07.TraceChains", spec := "traceChains", inPlace := ["internal/bytealg.IndexByteString", "internal/bytealg.IndexString"], unfollowed := true, recurses := true, named := ["internal/bytealg.MaxLen"], apart := false }
def TraceChainsSaid : Prop := traceChainsRow.holds Try.pinned (OpenSpec.ofChange traceChainsSpec)

/-- ITS FALSE NEIGHBOUR: 'it returns false'. Refute it at one input. -/
def traceChainsWrong : ChangeSpec := { name := "traceChains", fn := fun _ => fun
  | [d1, d2] => { results := [.lit (.bool false)], args := [d1, d2] }
  | _ => none }
def TraceChainsWrongFalsely : Prop := traceChainsRow.holds Try.pinned (OpenSpec.ofChange traceChainsWrong)

/-- 'radomelaw07.TraceKnown': WHATEVER THE INPUT: true; the input reads as it did. -/
def traceKnownSpec : ChangeSpec := { name := "traceKnown", fn := fun _ => fun
  | [] => { results := [.lit (.bool true)], args := [] }
  | _ => none }
def traceKnownRow : OpenClaim := { program := "ytiggefmckomilaa", sum := "f8d1070c9de6abe494650f09d37f39c66fdad2c9fe422a82489aa370d3c8eacc", func := "radome/radomelaw07.TraceKnown", spec := "traceKnown", inPlace := ["internal/bytealg.IndexByteString", "internal/bytealg.IndexString"], unfollowed := true, recurses := true, named := ["internal/bytealg.MaxLen"], apart := false }
def TraceKnownSaid : Prop := traceKnownRow.holds Try.pinned (OpenSpec.ofChange traceKnownSpec)

/-- ITS FALSE NEIGHBOUR: 'it returns false'. Refute it at one input. -/
def traceKnownWrong : ChangeSpec := { name := "traceKnown", fn := fun _ => fun
  | [] => { results := [.lit (.bool false)], args := [] }
  | _ => none }
def TraceKnownWrongFalsely : Prop := traceKnownRow.holds Try.pinned (OpenSpec.ofChange traceKnownWrong)

/-- 'radomelaw07.TraceRuns': WHATEVER THE INPUT: true; the input reads as it did. -/
def traceRunsSpec : ChangeSpec := { name := "traceRuns", fn := fun _ => fun
  | [d] => { results := [.lit (.bool true)], args := [d] }
  | _ => none }
def traceRunsRow : OpenClaim := { program := "ytiggefmckomilaa", sum := "f8d1070c9de6abe494650f09d37f39c66fdad2c9fe422a82489aa370d3c8eacc", func := "radome/radomelaw07.TraceRuns", spec := "traceRuns", inPlace := ["internal/bytealg.IndexByteString", "internal/bytealg.IndexString"], unfollowed := true, recurses := true, named := ["internal/bytealg.MaxLen"], apart := false }
def TraceRunsSaid : Prop := traceRunsRow.holds Try.pinned (OpenSpec.ofChange traceRunsSpec)

/-- ITS FALSE NEIGHBOUR: 'it returns false'. Refute it at one input. -/
def traceRunsWrong : ChangeSpec := { name := "traceRuns", fn := fun _ => fun
  | [d] => { results := [.lit (.bool false)], args := [d] }
  | _ => none }
def TraceRunsWrongFalsely : Prop := traceRunsRow.holds Try.pinned (OpenSpec.ofChange traceRunsWrong)

/-- 'radomelaw07.TraceNil': WHATEVER THE INPUT: true; the input reads as it did. -/
def traceNilSpec : ChangeSpec := { name := "traceNil", fn := fun _ => fun
  | [d1, d2] => { results := [.lit (.bool true)], args := [d1, d2] }
  | _ => none }
def traceNilRow : OpenClaim := { program := "ytiggefmckomilaa", sum := "f8d1070c9de6abe494650f09d37f39c66fdad2c9fe422a82489aa370d3c8eacc", func := "radome/radomelaw07.TraceNil", spec := "traceNil", inPlace := ["internal/bytealg.IndexByteString", "internal/bytealg.IndexString"], unfollowed := true, recurses := true, named := ["internal/bytealg.MaxLen"], apart := false }
def TraceNilSaid : Prop := traceNilRow.holds Try.pinned (OpenSpec.ofChange traceNilSpec)

/-- ITS FALSE NEIGHBOUR: 'it returns false'. Refute it at one input. -/
def traceNilWrong : ChangeSpec := { name := "traceNil", fn := fun _ => fun
  | [d1, d2] => { results := [.lit (.bool false)], args := [d1, d2] }
  | _ => none }
def TraceNilWrongFalsely : Prop := traceNilRow.holds Try.pinned (OpenSpec.ofChange traceNilWrong)

/- THE SECOND FORM. 'bulk': how many values and letters a reading holds, each counted each time it is reached (what is shared counts as often as it is met; a slice's spare places count too). A statement '..UptoSaid' is the law's where the arguments, and the package variables that the reading takes, are together of bulk at most 1048576: NARROWER than '..Said'. Prove '..Said' where nothing that the law and all that it calls make is longer than what came in: it says more and counts as full. Else prove '..UptoSaid'. A law counts once. -/
mutual
def uptoBulk {H : Type} : DataW H → Nat
  | .lit (.string bytes) => bytes.length + 1
  | .lit _ => 1
  | .nil => 1
  | .ptr d => uptoBulk d + 1
  | .slice elems spare => uptoBulkAll elems + uptoBulkAll spare + 1
  | .agg parts => uptoBulkAll parts + 1
  | .iface _ d => uptoBulk d + 1
  | .map entries => uptoBulkEntries entries + 1
  | .held _ => 1
def uptoBulkAll {H : Type} : List (DataW H) → Nat
  | [] => 0
  | d :: r => uptoBulk d + uptoBulkAll r
def uptoBulkEntries {H : Type} : List (Lit × DataW H) → Nat
  | [] => 0
  | x :: r => uptoBulkEntry x + uptoBulkEntries r
def uptoBulkEntry {H : Type} : Lit × DataW H → Nat
  | (.string bytes, d) => bytes.length + uptoBulk d + 1
  | (_, d) => uptoBulk d + 1
 end
def uptoSmall : (H : Type) → List (DataW H) → Bool := fun _ ds => decide (uptoBulkAll ds ≤ 1048576)
def OpenSpec.upto (s : _root_.Go.ChangeSpec) : _root_.Go.OpenSpec := { _root_.Go.OpenSpec.ofChange s with cond := some uptoSmall }

/-- 'radomelaw07.TraceCorrects', WHERE WHAT IT READS IS OF BULK AT MOST 1048576: true; the input reads as it did. -/
def traceCorrectsUptoRow : OpenClaim := { program := "ytiggefmckomilaa", sum := "f8d1070c9de6abe494650f09d37f39c66fdad2c9fe422a82489aa370d3c8eacc", func := "radome/radomelaw07.TraceCorrects", spec := "traceCorrects", inPlace := ["internal/bytealg.IndexByteString", "internal/bytealg.IndexString"], unfollowed := true, recurses := true, named := ["internal/bytealg.MaxLen"], apart := false, narrowed := true }
def TraceCorrectsUptoSaid : Prop := traceCorrectsUptoRow.holds Try.pinned (OpenSpec.upto traceCorrectsSpec)

/-- 'radomelaw07.TraceTruth', WHERE WHAT IT READS IS OF BULK AT MOST 1048576: true; the input reads as it did. -/
def traceTruthUptoRow : OpenClaim := { program := "ytiggefmckomilaa", sum := "f8d1070c9de6abe494650f09d37f39c66fdad2c9fe422a82489aa370d3c8eacc", func := "radome/radomelaw07.TraceTruth", spec := "traceTruth", inPlace := ["internal/bytealg.IndexByteString", "internal/bytealg.IndexString"], unfollowed := true, recurses := true, named := ["internal/bytealg.MaxLen"], apart := false, narrowed := true }
def TraceTruthUptoSaid : Prop := traceTruthUptoRow.holds Try.pinned (OpenSpec.upto traceTruthSpec)

/-- 'radomelaw07.TraceOrders', WHERE WHAT IT READS IS OF BULK AT MOST 1048576: true; the input reads as it did. -/
def traceOrdersUptoRow : OpenClaim := { program := "ytiggefmckomilaa", sum := "f8d1070c9de6abe494650f09d37f39c66fdad2c9fe422a82489aa370d3c8eacc", func := "radome/radomelaw07.TraceOrders", spec := "traceOrders", inPlace := ["internal/bytealg.IndexByteString", "internal/bytealg.IndexString"], unfollowed := true, recurses := true, named := ["internal/bytealg.MaxLen"], apart := false, narrowed := true }
def TraceOrdersUptoSaid : Prop := traceOrdersUptoRow.holds Try.pinned (OpenSpec.upto traceOrdersSpec)

/-- 'radomelaw07.TraceFull', WHERE WHAT IT READS IS OF BULK AT MOST 1048576: true; the input reads as it did. -/
def traceFullUptoRow : OpenClaim := { program := "ytiggefmckomilaa", sum := "f8d1070c9de6abe494650f09d37f39c66fdad2c9fe422a82489aa370d3c8eacc", func := "radome/radomelaw07.TraceFull", spec := "traceFull", inPlace := ["internal/bytealg.IndexByteString", "internal/bytealg.IndexString"], unfollowed := true, recurses := true, named := ["internal/bytealg.MaxLen"], apart := false, narrowed := true }
def TraceFullUptoSaid : Prop := traceFullUptoRow.holds Try.pinned (OpenSpec.upto traceFullSpec)

/-- 'radomelaw07.TraceBacks', WHERE WHAT IT READS IS OF BULK AT MOST 1048576: true; the input reads as it did. -/
def traceBacksUptoRow : OpenClaim := { program := "ytiggefmckomilaa", sum := "f8d1070c9de6abe494650f09d37f39c66fdad2c9fe422a82489aa370d3c8eacc", func := "radome/radomelaw07.TraceBacks", spec := "traceBacks", inPlace := ["internal/bytealg.IndexByteString", "internal/bytealg.IndexString"], unfollowed := true, recurses := true, named := ["internal/bytealg.MaxLen"], apart := false, narrowed := true }
def TraceBacksUptoSaid : Prop := traceBacksUptoRow.holds Try.pinned (OpenSpec.upto traceBacksSpec)

/-- 'radomelaw07.TraceWithdraws', WHERE WHAT IT READS IS OF BULK AT MOST 1048576: true; the input reads as it did. -/
def traceWithdrawsUptoRow : OpenClaim := { program := "ytiggefmckomilaa", sum := "f8d1070c9de6abe494650f09d37f39c66fdad2c9fe422a82489aa370d3c8eacc", func := "radome/radomelaw07.TraceWithdraws", spec := "traceWithdraws", inPlace := ["internal/bytealg.IndexByteString", "internal/bytealg.IndexString"], unfollowed := true, recurses := true, named := ["internal/bytealg.MaxLen"], apart := false, narrowed := true }
def TraceWithdrawsUptoSaid : Prop := traceWithdrawsUptoRow.holds Try.pinned (OpenSpec.upto traceWithdrawsSpec)

/-- 'radomelaw07.TraceChains', WHERE WHAT IT READS IS OF BULK AT MOST 1048576: true; the input reads as it did. -/
def traceChainsUptoRow : OpenClaim := { program := "ytiggefmckomilaa", sum := "f8d1070c9de6abe494650f09d37f39c66fdad2c9fe422a82489aa370d3c8eacc", func := "radome/radomelaw07.TraceChains", spec := "traceChains", inPlace := ["internal/bytealg.IndexByteString", "internal/bytealg.IndexString"], unfollowed := true, recurses := true, named := ["internal/bytealg.MaxLen"], apart := false, narrowed := true }
def TraceChainsUptoSaid : Prop := traceChainsUptoRow.holds Try.pinned (OpenSpec.upto traceChainsSpec)

/-- 'radomelaw07.TraceKnown', WHERE WHAT IT READS IS OF BULK AT MOST 1048576: true; the input reads as it did. -/
def traceKnownUptoRow : OpenClaim := { program := "ytiggefmckomilaa", sum := "f8d1070c9de6abe494650f09d37f39c66fdad2c9fe422a82489aa370d3c8eacc", func := "radome/radomelaw07.TraceKnown", spec := "traceKnown", inPlace := ["internal/bytealg.IndexByteString", "internal/bytealg.IndexString"], unfollowed := true, recurses := true, named := ["internal/bytealg.MaxLen"], apart := false, narrowed := true }
def TraceKnownUptoSaid : Prop := traceKnownUptoRow.holds Try.pinned (OpenSpec.upto traceKnownSpec)

/-- 'radomelaw07.TraceRuns', WHERE WHAT IT READS IS OF BULK AT MOST 1048576: true; the input reads as it did. -/
def traceRunsUptoRow : OpenClaim := { program := "ytiggefmckomilaa", sum := "f8d1070c9de6abe494650f09d37f39c66fdad2c9fe422a82489aa370d3c8eacc", func := "radome/radomelaw07.TraceRuns", spec := "traceRuns", inPlace := ["internal/bytealg.IndexByteString", "internal/bytealg.IndexString"], unfollowed := true, recurses := true, named := ["internal/bytealg.MaxLen"], apart := false, narrowed := true }
def TraceRunsUptoSaid : Prop := traceRunsUptoRow.holds Try.pinned (OpenSpec.upto traceRunsSpec)

/-- 'radomelaw07.TraceNil', WHERE WHAT IT READS IS OF BULK AT MOST 1048576: true; the input reads as it did. -/
def traceNilUptoRow : OpenClaim := { program := "ytiggefmckomilaa", sum := "f8d1070c9de6abe494650f09d37f39c66fdad2c9fe422a82489aa370d3c8eacc", func := "radome/radomelaw07.TraceNil", spec := "traceNil", inPlace := ["internal/bytealg.IndexByteString", "internal/bytealg.IndexString"], unfollowed := true, recurses := true, named := ["internal/bytealg.MaxLen"], apart := false, narrowed := true }
def TraceNilUptoSaid : Prop := traceNilUptoRow.holds Try.pinned (OpenSpec.upto traceNilSpec)

end Rows
end Go.Proofs.Ytiggefmckomilaa
