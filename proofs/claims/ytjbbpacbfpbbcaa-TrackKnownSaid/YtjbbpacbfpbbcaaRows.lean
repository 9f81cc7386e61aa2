/-
  No cell of these rows narrows 'for every input' (looked for: loops, veiled, ifaces, maps, wideKeys, modest, calm, conditions, laid).
  DERIVED. THE GIVEN ROWS OF THIS SEAT. 2 by the template 'for every input the law returns true; each argument reads behind the call as it read before'; 0 by the template 'total and deterministic' (their statements: YtjbbpacbfpbbcaaTotals.lean).
  GIVEN WITH THE SEED: the statements are not yours to turn. If you find one false, say at which input.
  Laid BY PROGRAM, IN A SANDBOX (cutbox-rows.mjs): the forced cells as the released guide's own fill.sh prints them over the translation 22d69d059574ac1b… (all of the seat's roots in one cut). By AI agents, Wed Nov 11 2026. No macro, syntax, notation, axiom, sorry.
-/
import Derived.Test.YtjbbpacbfpbbcaaChecked
import GoSem.Claim
import GoSem.ClaimJoined
import GoSem.ClaimMapViews
import Derived.JoinedTies
import Derived.KernelRfl
namespace Go.Proofs.Ytjbbpacbfpbbcaa
/- THE CELL 'sum', in the pinned program and in every row, IS THE sha256 OF THE DUMP (.gsa) THAT YtjbbpacbfpbbcaaProg.lean LOADS. Nothing in Lean hashes anything: it is a label: what it is worth is what the hold of that sum in a sandbox is worth. -/
noncomputable def Try.pinned : Pinned := { name := "ytjbbpacbfpbbcaa", sum := "22d69d059574ac1bf6dd7028c0a5a3c5c12ad61065eda423f0e020ffcecbc67a", checked := Try.checked }
namespace Rows
def none {H : Type} : Left H := { results := [], args := [] }

/-- 'jobshoplaw15.TrackOwn': WHATEVER THE INPUT: true; the input reads as it did. -/
def trackOwnSpec : ChangeSpec := { name := "trackOwn", fn := fun _ => fun
  | [d1, d2] => { results := [.lit (.bool true)], args := [d1, d2] }
  | _ => none }
def trackOwnRow : OpenClaim := { program := "ytjbbpacbfpbbcaa", sum := "22d69d059574ac1bf6dd7028c0a5a3c5c12ad61065eda423f0e020ffcecbc67a", func := "jobshop/jobshoplaw15.TrackOwn", spec := "trackOwn", inPlace := ["internal/bytealg.Compare", "internal/bytealg.MakeNoZero"], unfollowed := true, recurses := true, apart := false }
def TrackOwnSaid : Prop := trackOwnRow.holds Try.pinned (OpenSpec.ofChange trackOwnSpec)

/-- ITS FALSE NEIGHBOUR: 'it returns false'. Refute it at one input. -/
def trackOwnWrong : ChangeSpec := { name := "trackOwn", fn := fun _ => fun
  | [d1, d2] => { results := [.lit (.bool false)], args := [d1, d2] }
  | _ => none }
def TrackOwnWrongFalsely : Prop := trackOwnRow.holds Try.pinned (OpenSpec.ofChange trackOwnWrong)

/-- 'jobshoplaw15.TrackKnown': WHATEVER THE INPUT: true; the input reads as it did. -/
def trackKnownSpec : ChangeSpec := { name := "trackKnown", fn := fun _ => fun
  | [] => { results := [.lit (.bool true)], args := [] }
  | _ => none }
def trackKnownRow : OpenClaim := { program := "ytjbbpacbfpbbcaa", sum := "22d69d059574ac1bf6dd7028c0a5a3c5c12ad61065eda423f0e020ffcecbc67a", func := "jobshop/jobshoplaw15.TrackKnown", spec := "trackKnown", inPlace := ["internal/bytealg.MakeNoZero", "internal/bytealg.Compare"], unfollowed := true, recurses := true, apart := false }
def TrackKnownSaid : Prop := trackKnownRow.holds Try.pinned (OpenSpec.ofChange trackKnownSpec)

/-- ITS FALSE NEIGHBOUR: 'it returns false'. Refute it at one input. -/
def trackKnownWrong : ChangeSpec := { name := "trackKnown", fn := fun _ => fun
  | [] => { results := [.lit (.bool false)], args := [] }
  | _ => none }
def TrackKnownWrongFalsely : Prop := trackKnownRow.holds Try.pinned (OpenSpec.ofChange trackKnownWrong)

/- THE SECOND FORM. 'bulk': how many values and letters a reading holds, each counted each time it is reached (what is shared counts as often as it is met; a slice's spare places count too). A statement '..UptoSaid' is the law's where the arguments, and the package variables that the reading takes, are together of bulk at most 1048576: NARROWER than '..Said'. Prove '..Said' where nothing that the law and all that it calls make is longer than what came in: it says more and counts as full. Else prove '..UptoSaid'. A law counts once. -/
mutual
def uptoBulk {H : Type} : DataW H → Nat
  | .lit (.string bytes) => bytes.length + 1
  | .lit _ => 1
  | .nil => 1
  | .ptr d => uptoBulk d + 1
  | .slice elems spare => uptoBulkAll elems + uptoBulkAll spare + 1
  | .agg parts => uptoBulkAll parts + 1
  | .iface _ d => uptoBulk d + 1
  | .map entries => uptoBulkEntries entries + 1
  | .held _ => 1
def uptoBulkAll {H : Type} : List (DataW H) → Nat
  | [] => 0
  | d :: r => uptoBulk d + uptoBulkAll r
def uptoBulkEntries {H : Type} : List (Lit × DataW H) → Nat
  | [] => 0
  | x :: r => uptoBulkEntry x + uptoBulkEntries r
def uptoBulkEntry {H : Type} : Lit × DataW H → Nat
  | (.string bytes, d) => bytes.length + uptoBulk d + 1
  | (_, d) => uptoBulk d + 1
 end
def uptoSmall : (H : Type) → List (DataW H) → Bool := fun _ ds => decide (uptoBulkAll ds ≤ 1048576)
def OpenSpec.upto (s : _root_.Go.ChangeSpec) : _root_.Go.OpenSpec := { _root_.Go.OpenSpec.ofChange s with cond := some uptoSmall }

/-- 'jobshoplaw15.TrackOwn', WHERE WHAT IT READS IS OF BULK AT MOST 1048576: true; the input reads as it did. -/
def trackOwnUptoRow : OpenClaim := { program := "ytjbbpacbfpbbcaa", sum := "22d69d059574ac1bf6dd7028c0a5a3c5c12ad61065eda423f0e020ffcecbc67a", func := "jobshop/jobshoplaw15.TrackOwn", spec := "trackOwn", inPlace := ["internal/bytealg.Compare", "internal/bytealg.MakeNoZero"], unfollowed := true, recurses := true, apart := false, narrowed := true }
def TrackOwnUptoSaid : Prop := trackOwnUptoRow.holds Try.pinned (OpenSpec.upto trackOwnSpec)

/-- 'jobshoplaw15.TrackKnown', WHERE WHAT IT READS IS OF BULK AT MOST 1048576: true; the input reads as it did. -/
def trackKnownUptoRow : OpenClaim := { program := "ytjbbpacbfpbbcaa", sum := "22d69d059574ac1bf6dd7028c0a5a3c5c12ad61065eda423f0e020ffcecbc67a", func := "jobshop/jobshoplaw15.TrackKnown", spec := "trackKnown", inPlace := ["internal/bytealg.MakeNoZero", "internal/bytealg.Compare"], unfollowed := true, recurses := true, apart := false, narrowed := true }
def TrackKnownUptoSaid : Prop := trackKnownUptoRow.holds Try.pinned (OpenSpec.upto trackKnownSpec)

end Rows
end Go.Proofs.Ytjbbpacbfpbbcaa
