/-
  No cell of these rows narrows 'for every input' (looked for: loops, veiled, ifaces, maps, wideKeys, modest, calm, conditions, laid).
  DERIVED. THE GIVEN ROWS OF THIS SEAT. 6 by the template 'for every input the law returns true; each argument reads behind the call as it read before'; 0 by the template 'total and deterministic' (their statements: YtpiijfknpliahaaTotals.lean).
  GIVEN WITH THE SEED: the statements are not yours to turn. If you find one false, say at which input.
  Laid BY PROGRAM, IN A SANDBOX (cutbox-rows.mjs): the forced cells as the released guide's own fill.sh prints them over the translation 2009633764f57f3e… (all of the seat's roots in one cut). By AI agents, Wed Nov 11 2026. No macro, syntax, notation, axiom, sorry.
-/
import Derived.Test.YtpiijfknpliahaaChecked
import GoSem.Claim
import GoSem.ClaimJoined
import GoSem.ClaimMapViews
import Derived.JoinedTies
import Derived.KernelRfl
namespace Go.Proofs.Ytpiijfknpliahaa
/- THE CELL 'sum', in the pinned program and in every row, IS THE sha256 OF THE DUMP (.gsa) THAT YtpiijfknpliahaaProg.lean LOADS. Nothing in Lean hashes anything: it is a label: what it is worth is what the hold of that sum in a sandbox is worth. -/
noncomputable def Try.pinned : Pinned := { name := "ytpiijfknpliahaa", sum := "2009633764f57f3ed5c6d3d0ff4490fc0c23c85d03fa54bd1029ff12259551c6", checked := Try.checked }
namespace Rows
def none {H : Type} : Left H := { results := [], args := [] }

/-- 'ambrylaw8.RamWeighs': WHATEVER THE INPUT: true; the input reads as it did. -/
def ramWeighsSpec : ChangeSpec := { name := "ramWeighs", fn := fun _ => fun
  | [d1, d2] => { results := [.lit (.bool true)], args := [d1, d2] }
  | _ => none }
def ramWeighsRow : OpenClaim := { program := "ytpiijfknpliahaa", sum := "2009633764f57f3ed5c6d3d0ff4490fc0c23c85d03fa54bd1029ff12259551c6", func := "ambry/ambrylaw8.RamWeighs", spec := "ramWeighs", inPlace := ["sync/atomic.LoadInt64", "sync/atomic.StoreInt64"], unfollowed := true, recurses := true, plainKeys := false, apart := false }
def RamWeighsSaid : Prop := ramWeighsRow.holds Try.pinned (OpenSpec.ofChange ramWeighsSpec)

/-- ITS FALSE NEIGHBOUR: 'it returns false'. Refute it at one input. -/
def ramWeighsWrong : ChangeSpec := { name := "ramWeighs", fn := fun _ => fun
  | [d1, d2] => { results := [.lit (.bool false)], args := [d1, d2] }
  | _ => none }
def RamWeighsWrongFalsely : Prop := ramWeighsRow.holds Try.pinned (OpenSpec.ofChange ramWeighsWrong)

/-- 'ambrylaw8.RamBounds': WHATEVER THE INPUT: true; the input reads as it did. -/
def ramBoundsSpec : ChangeSpec := { name := "ramBounds", fn := fun _ => fun
  | [d1, d2] => { results := [.lit (.bool true)], args := [d1, d2] }
  | _ => none }
def ramBoundsRow : OpenClaim := { program := "ytpiijfknpliahaa", sum := "2009633764f57f3ed5c6d3d0ff4490fc0c23c85d03fa54bd1029ff12259551c6", func := "ambry/ambrylaw8.RamBounds", spec := "ramBounds", inPlace := ["sync/atomic.LoadInt64", "sync/atomic.StoreInt64"], unfollowed := true, recurses := true, plainKeys := false, apart := false }
def RamBoundsSaid : Prop := ramBoundsRow.holds Try.pinned (OpenSpec.ofChange ramBoundsSpec)

/-- ITS FALSE NEIGHBOUR: 'it returns false'. Refute it at one input. -/
def ramBoundsWrong : ChangeSpec := { name := "ramBounds", fn := fun _ => fun
  | [d1, d2] => { results := [.lit (.bool false)], args := [d1, d2] }
  | _ => none }
def RamBoundsWrongFalsely : Prop := ramBoundsRow.holds Try.pinned (OpenSpec.ofChange ramBoundsWrong)

/-- 'ambrylaw8.RamKeeps': WHATEVER THE INPUT: true; the input reads as it did. -/
def ramKeepsSpec : ChangeSpec := { name := "ramKeeps", fn := fun _ => fun
  | [d1, d2] => { results := [.lit (.bool true)], args := [d1, d2] }
  | _ => none }
def ramKeepsRow : OpenClaim := { program := "ytpiijfknpliahaa", sum := "2009633764f57f3ed5c6d3d0ff4490fc0c23c85d03fa54bd1029ff12259551c6", func := "ambry/ambrylaw8.RamKeeps", spec := "ramKeeps", inPlace := ["sync/atomic.LoadInt64", "sync/atomic.StoreInt64"], unfollowed := true, recurses := true, plainKeys := false, apart := false }
def RamKeepsSaid : Prop := ramKeepsRow.holds Try.pinned (OpenSpec.ofChange ramKeepsSpec)

/-- ITS FALSE NEIGHBOUR: 'it returns false'. Refute it at one input. -/
def ramKeepsWrong : ChangeSpec := { name := "ramKeeps", fn := fun _ => fun
  | [d1, d2] => { results := [.lit (.bool false)], args := [d1, d2] }
  | _ => none }
def RamKeepsWrongFalsely : Prop := ramKeepsRow.holds Try.pinned (OpenSpec.ofChange ramKeepsWrong)

/-- 'ambrylaw8.RamRemembers': WHATEVER THE INPUT: true; the input reads as it did. -/
def ramRemembersSpec : ChangeSpec := { name := "ramRemembers", fn := fun _ => fun
  | [d1, d2] => { results := [.lit (.bool true)], args := [d1, d2] }
  | _ => none }
def ramRemembersRow : OpenClaim := { program := "ytpiijfknpliahaa", sum := "2009633764f57f3ed5c6d3d0ff4490fc0c23c85d03fa54bd1029ff12259551c6", func := "ambry/ambrylaw8.RamRemembers", spec := "ramRemembers", inPlace := ["sync/atomic.LoadInt64", "sync/atomic.StoreInt64"], unfollowed := true, recurses := true, plainKeys := false, apart := false }
def RamRemembersSaid : Prop := ramRemembersRow.holds Try.pinned (OpenSpec.ofChange ramRemembersSpec)

/-- ITS FALSE NEIGHBOUR: 'it returns false'. Refute it at one input. -/
def ramRemembersWrong : ChangeSpec := { name := "ramRemembers", fn := fun _ => fun
  | [d1, d2] => { results := [.lit (.bool false)], args := [d1, d2] }
  | _ => none }
def RamRemembersWrongFalsely : Prop := ramRemembersRow.holds Try.pinned (OpenSpec.ofChange ramRemembersWrong)

/-- 'ambrylaw8.RamPlays': WHATEVER THE INPUT: true; the input reads as it did. -/
def ramPlaysSpec : ChangeSpec := { name := "ramPlays", fn := fun _ => fun
  | [d1, d2] => { results := [.lit (.bool true)], args := [d1, d2] }
  | _ => none }
def ramPlaysRow : OpenClaim := { program := "ytpiijfknpliahaa", sum := "2009633764f57f3ed5c6d3d0ff4490fc0c23c85d03fa54bd1029ff12259551c6", func := "ambry/ambrylaw8.RamPlays", spec := "ramPlays", inPlace := ["sync/atomic.LoadInt64", "sync/atomic.StoreInt64"], unfollowed := true, recurses := true, plainKeys := false, apart := false }
def RamPlaysSaid : Prop := ramPlaysRow.holds Try.pinned (OpenSpec.ofChange ramPlaysSpec)

/-- ITS FALSE NEIGHBOUR: 'it returns false'. Refute it at one input. -/
def ramPlaysWrong : ChangeSpec := { name := "ramPlays", fn := fun _ => fun
  | [d1, d2] => { results := [.lit (.bool false)], args := [d1, d2] }
  | _ => none }
def RamPlaysWrongFalsely : Prop := ramPlaysRow.holds Try.pinned (OpenSpec.ofChange ramPlaysWrong)

/-- 'ambrylaw8.RamLast': WHATEVER THE INPUT: true; the input reads as it did. -/
def ramLastSpec : ChangeSpec := { name := "ramLast", fn := fun _ => fun
  | [d] => { results := [.lit (.bool true)], args := [d] }
  | _ => none }
def ramLastRow : OpenClaim := { program := "ytpiijfknpliahaa", sum := "2009633764f57f3ed5c6d3d0ff4490fc0c23c85d03fa54bd1029ff12259551c6", func := "ambry/ambrylaw8.RamLast", spec := "ramLast", inPlace := ["sync/atomic.LoadInt64", "sync/atomic.StoreInt64"], unfollowed := true, recurses := true, plainKeys := false, apart := false }
def RamLastSaid : Prop := ramLastRow.holds Try.pinned (OpenSpec.ofChange ramLastSpec)

/-- ITS FALSE NEIGHBOUR: 'it returns false'. Refute it at one input. -/
def ramLastWrong : ChangeSpec := { name := "ramLast", fn := fun _ => fun
  | [d] => { results := [.lit (.bool false)], args := [d] }
  | _ => none }
def RamLastWrongFalsely : Prop := ramLastRow.holds Try.pinned (OpenSpec.ofChange ramLastWrong)

/- THE SECOND FORM. 'bulk': how many values and letters a reading holds, each counted each time it is reached (what is shared counts as often as it is met; a slice's spare places count too). A statement '..UptoSaid' is the law's where the arguments, and the package variables that the reading takes, are together of bulk at most 1048576: NARROWER than '..Said'. Prove '..Said' where nothing that the law and all that it calls make is longer than what came in: it says more and counts as full. Else prove '..UptoSaid'. A law counts once. -/
mutual
def uptoBulk {H : Type} : DataW H → Nat
  | .lit (.string bytes) => bytes.length + 1
  | .lit _ => 1
  | .nil => 1
  | .ptr d => uptoBulk d + 1
  | .slice elems spare => uptoBulkAll elems + uptoBulkAll spare + 1
  | .agg parts => uptoBulkAll parts + 1
  | .iface _ d => uptoBulk d + 1
  | .map entries => uptoBulkEntries entries + 1
  | .held _ => 1
def uptoBulkAll {H : Type} : List (DataW H) → Nat
  | [] => 0
  | d :: r => uptoBulk d + uptoBulkAll r
def uptoBulkEntries {H : Type} : List (Lit × DataW H) → Nat
  | [] => 0
  | x :: r => uptoBulkEntry x + uptoBulkEntries r
def uptoBulkEntry {H : Type} : Lit × DataW H → Nat
  | (.string bytes, d) => bytes.length + uptoBulk d + 1
  | (_, d) => uptoBulk d + 1
 end
def uptoSmall : (H : Type) → List (DataW H) → Bool := fun _ ds => decide (uptoBulkAll ds ≤ 1048576)
def OpenSpec.upto (s : _root_.Go.ChangeSpec) : _root_.Go.OpenSpec := { _root_.Go.OpenSpec.ofChange s with cond := some uptoSmall }

/-- 'ambrylaw8.RamWeighs', WHERE WHAT IT READS IS OF BULK AT MOST 1048576: true; the input reads as it did. -/
def ramWeighsUptoRow : OpenClaim := { program := "ytpiijfknpliahaa", sum := "2009633764f57f3ed5c6d3d0ff4490fc0c23c85d03fa54bd1029ff12259551c6", func := "ambry/ambrylaw8.RamWeighs", spec := "ramWeighs", inPlace := ["sync/atomic.LoadInt64", "sync/atomic.StoreInt64"], unfollowed := true, recurses := true, plainKeys := false, apart := false, narrowed := true }
def RamWeighsUptoSaid : Prop := ramWeighsUptoRow.holds Try.pinned (OpenSpec.upto ramWeighsSpec)

/-- 'ambrylaw8.RamBounds', WHERE WHAT IT READS IS OF BULK AT MOST 1048576: true; the input reads as it did. -/
def ramBoundsUptoRow : OpenClaim := { program := "ytpiijfknpliahaa", sum := "2009633764f57f3ed5c6d3d0ff4490fc0c23c85d03fa54bd1029ff12259551c6", func := "ambry/ambrylaw8.RamBounds", spec := "ramBounds", inPlace := ["sync/atomic.LoadInt64", "sync/atomic.StoreInt64"], unfollowed := true, recurses := true, plainKeys := false, apart := false, narrowed := true }
def RamBoundsUptoSaid : Prop := ramBoundsUptoRow.holds Try.pinned (OpenSpec.upto ramBoundsSpec)

/-- 'ambrylaw8.RamKeeps', WHERE WHAT IT READS IS OF BULK AT MOST 1048576: true; the input reads as it did. -/
def ramKeepsUptoRow : OpenClaim := { program := "ytpiijfknpliahaa", sum := "2009633764f57f3ed5c6d3d0ff4490fc0c23c85d03fa54bd1029ff12259551c6", func := "ambry/ambrylaw8.RamKeeps", spec := "ramKeeps", inPlace := ["sync/atomic.LoadInt64", "sync/atomic.StoreInt64"], unfollowed := true, recurses := true, plainKeys := false, apart := false, narrowed := true }
def RamKeepsUptoSaid : Prop := ramKeepsUptoRow.holds Try.pinned (OpenSpec.upto ramKeepsSpec)

/-- 'ambrylaw8.RamRemembers', WHERE WHAT IT READS IS OF BULK AT MOST 1048576: true; the input reads as it did. -/
def ramRemembersUptoRow : OpenClaim := { program := "ytpiijfknpliahaa", sum := "2009633764f57f3ed5c6d3d0ff4490fc0c23c85d03fa54bd1029ff12259551c6", func := "ambry/ambrylaw8.RamRemembers", spec := "ramRemembers", inPlace := ["sync/atomic.LoadInt64", "sync/atomic.StoreInt64"], unfollowed := true, recurses := true, plainKeys := false, apart := false, narrowed := true }
def RamRemembersUptoSaid : Prop := ramRemembersUptoRow.holds Try.pinned (OpenSpec.upto ramRemembersSpec)

/-- 'ambrylaw8.RamPlays', WHERE WHAT IT READS IS OF BULK AT MOST 1048576: true; the input reads as it did. -/
def ramPlaysUptoRow : OpenClaim := { program := "ytpiijfknpliahaa", sum := "2009633764f57f3ed5c6d3d0ff4490fc0c23c85d03fa54bd1029ff12259551c6", func := "ambry/ambrylaw8.RamPlays", spec := "ramPlays", inPlace := ["sync/atomic.LoadInt64", "sync/atomic.StoreInt64"], unfollowed := true, recurses := true, plainKeys := false, apart := false, narrowed := true }
def RamPlaysUptoSaid : Prop := ramPlaysUptoRow.holds Try.pinned (OpenSpec.upto ramPlaysSpec)

/-- 'ambrylaw8.RamLast', WHERE WHAT IT READS IS OF BULK AT MOST 1048576: true; the input reads as it did. -/
def ramLastUptoRow : OpenClaim := { program := "ytpiijfknpliahaa", sum := "2009633764f57f3ed5c6d3d0ff4490fc0c23c85d03fa54bd1029ff12259551c6", func := "ambry/ambrylaw8.RamLast", spec := "ramLast", inPlace := ["sync/atomic.LoadInt64", "sync/atomic.StoreInt64"], unfollowed := true, recurses := true, plainKeys := false, apart := false, narrowed := true }
def RamLastUptoSaid : Prop := ramLastUptoRow.holds Try.pinned (OpenSpec.upto ramLastSpec)

end Rows
end Go.Proofs.Ytpiijfknpliahaa
