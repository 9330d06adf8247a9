/-
  No cell of these rows narrows 'for every input' (looked for: loops, veiled, ifaces, maps, wideKeys, modest, calm, conditions, laid).
  DERIVED. THE GIVEN ROWS OF THIS SEAT. 3 by the template 'for every input the law returns true; each argument reads behind the call as it read before'; 0 by the template 'total and deterministic' (their statements: YtlcapliakfomhabTotals.lean).
  GIVEN WITH THE SEED: the statements are not yours to turn. If you find one false, say at which input.
  Laid BY PROGRAM, IN A SANDBOX (cutbox-rows.mjs): the forced cells as the released guide's own fill.sh prints them over the translation 1096f54b1083552f… (all of the seat's roots in one cut). By AI agents, Wed Nov 11 2026. No macro, syntax, notation, axiom, sorry.
-/
import Derived.Test.YtlcapliakfomhabChecked
import GoSem.Claim
import GoSem.ClaimJoined
import GoSem.ClaimMapViews
import Derived.JoinedTies
import Derived.KernelRfl
namespace Go.Proofs.Ytlcapliakfomhab
/- THE CELL 'sum', in the pinned program and in every row, IS THE sha256 OF THE DUMP (.gsa) THAT YtlcapliakfomhabProg.lean LOADS. Nothing in Lean hashes anything: it is a label: what it is worth is what the hold of that sum in a sandbox is worth. -/
noncomputable def Try.pinned : Pinned := { name := "ytlcapliakfomhab", sum := "1096f54b1083552fdb3386cce67e0b930ee2b0c13a011cdc9161e1211fdcf385", checked := Try.checked }
namespace Rows
def none {H : Type} : Left H := { results := [], args := [] }

/-- 'twainlaw24.FlightApart': WHATEVER THE INPUT: true; the input reads as it did. -/
def flightApartSpec : ChangeSpec := { name := "flightApart", fn := fun _ => fun
  | [d1, d2] => { results := [.lit (.bool true)], args := [d1, d2] }
  | _ => none }
def flightApartRow : OpenClaim := { program := "ytlcapliakfomhab", sum := "1096f54b1083552fdb3386cce67e0b930ee2b0c13a011cdc9161e1211fdcf385", func := "twain/twainlaw24.FlightApart", spec := "flightApart", unfollowed := true, recurses := true, plainKeys := false, apart := false }
def FlightApartSaid : Prop := flightApartRow.holds Try.pinned (OpenSpec.ofChange flightApartSpec)

/-- ITS FALSE NEIGHBOUR: 'it returns false'. Refute it at one input. -/
def flightApartWrong : ChangeSpec := { name := "flightApart", fn := fun _ => fun
  | [d1, d2] => { results := [.lit (.bool false)], args := [d1, d2] }
  | _ => none }
def FlightApartWrongFalsely : Prop := flightApartRow.holds Try.pinned (OpenSpec.ofChange flightApartWrong)

/-- 'twainlaw24.FlightActs': WHATEVER THE INPUT: true; the input reads as it did. -/
def flightActsSpec : ChangeSpec := { name := "flightActs", fn := fun _ => fun
  | [d1, d2] => { results := [.lit (.bool true)], args := [d1, d2] }
  | _ => none }
def flightActsRow : OpenClaim := { program := "ytlcapliakfomhab", sum := "1096f54b1083552fdb3386cce67e0b930ee2b0c13a011cdc9161e1211fdcf385", func := "twain/twainlaw24.FlightActs", spec := "flightActs", unfollowed := true, recurses := true, plainKeys := false, apart := false }
def FlightActsSaid : Prop := flightActsRow.holds Try.pinned (OpenSpec.ofChange flightActsSpec)

/-- ITS FALSE NEIGHBOUR: 'it returns false'. Refute it at one input. -/
def flightActsWrong : ChangeSpec := { name := "flightActs", fn := fun _ => fun
  | [d1, d2] => { results := [.lit (.bool false)], args := [d1, d2] }
  | _ => none }
def FlightActsWrongFalsely : Prop := flightActsRow.holds Try.pinned (OpenSpec.ofChange flightActsWrong)

/-- 'twainlaw24.FlightNone': WHATEVER THE INPUT: true; the input reads as it did. -/
def flightNoneSpec : ChangeSpec := { name := "flightNone", fn := fun _ => fun
  | [d] => { results := [.lit (.bool true)], args := [d] }
  | _ => none }
def flightNoneRow : OpenClaim := { program := "ytlcapliakfomhab", sum := "1096f54b1083552fdb3386cce67e0b930ee2b0c13a011cdc9161e1211fdcf385", func := "twain/twainlaw24.FlightNone", spec := "flightNone", unfollowed := true, recurses := true, plainKeys := false, apart := false }
def FlightNoneSaid : Prop := flightNoneRow.holds Try.pinned (OpenSpec.ofChange flightNoneSpec)

/-- ITS FALSE NEIGHBOUR: 'it returns false'. Refute it at one input. -/
def flightNoneWrong : ChangeSpec := { name := "flightNone", fn := fun _ => fun
  | [d] => { results := [.lit (.bool false)], args := [d] }
  | _ => none }
def FlightNoneWrongFalsely : Prop := flightNoneRow.holds Try.pinned (OpenSpec.ofChange flightNoneWrong)

/- THE SECOND FORM. 'bulk': how many values and letters a reading holds, each counted each time it is reached (what is shared counts as often as it is met; a slice's spare places count too). A statement '..UptoSaid' is the law's where the arguments, and the package variables that the reading takes, are together of bulk at most 1048576: NARROWER than '..Said'. Prove '..Said' where nothing that the law and all that it calls make is longer than what came in: it says more and counts as full. Else prove '..UptoSaid'. A law counts once. -/
mutual
def uptoBulk {H : Type} : DataW H → Nat
  | .lit (.string bytes) => bytes.length + 1
  | .lit _ => 1
  | .nil => 1
  | .ptr d => uptoBulk d + 1
  | .slice elems spare => uptoBulkAll elems + uptoBulkAll spare + 1
  | .agg parts => uptoBulkAll parts + 1
  | .iface _ d => uptoBulk d + 1
  | .map entries => uptoBulkEntries entries + 1
  | .held _ => 1
def uptoBulkAll {H : Type} : List (DataW H) → Nat
  | [] => 0
  | d :: r => uptoBulk d + uptoBulkAll r
def uptoBulkEntries {H : Type} : List (Lit × DataW H) → Nat
  | [] => 0
  | x :: r => uptoBulkEntry x + uptoBulkEntries r
def uptoBulkEntry {H : Type} : Lit × DataW H → Nat
  | (.string bytes, d) => bytes.length + uptoBulk d + 1
  | (_, d) => uptoBulk d + 1
 end
def uptoSmall : (H : Type) → List (DataW H) → Bool := fun _ ds => decide (uptoBulkAll ds ≤ 1048576)
def OpenSpec.upto (s : _root_.Go.ChangeSpec) : _root_.Go.OpenSpec := { _root_.Go.OpenSpec.ofChange s with cond := some uptoSmall }

/-- 'twainlaw24.FlightApart', WHERE WHAT IT READS IS OF BULK AT MOST 1048576: true; the input reads as it did. -/
def flightApartUptoRow : OpenClaim := { program := "ytlcapliakfomhab", sum := "1096f54b1083552fdb3386cce67e0b930ee2b0c13a011cdc9161e1211fdcf385", func := "twain/twainlaw24.FlightApart", spec := "flightApart", unfollowed := true, recurses := true, plainKeys := false, apart := false, narrowed := true }
def FlightApartUptoSaid : Prop := flightApartUptoRow.holds Try.pinned (OpenSpec.upto flightApartSpec)

/-- 'twainlaw24.FlightActs', WHERE WHAT IT READS IS OF BULK AT MOST 1048576: true; the input reads as it did. -/
def flightActsUptoRow : OpenClaim := { program := "ytlcapliakfomhab", sum := "1096f54b1083552fdb3386cce67e0b930ee2b0c13a011cdc9161e1211fdcf385", func := "twain/twainlaw24.FlightActs", spec := "flightActs", unfollowed := true, recurses := true, plainKeys := false, apart := false, narrowed := true }
def FlightActsUptoSaid : Prop := flightActsUptoRow.holds Try.pinned (OpenSpec.upto flightActsSpec)

/-- 'twainlaw24.FlightNone', WHERE WHAT IT READS IS OF BULK AT MOST 1048576: true; the input reads as it did. -/
def flightNoneUptoRow : OpenClaim := { program := "ytlcapliakfomhab", sum := "1096f54b1083552fdb3386cce67e0b930ee2b0c13a011cdc9161e1211fdcf385", func := "twain/twainlaw24.FlightNone", spec := "flightNone", unfollowed := true, recurses := true, plainKeys := false, apart := false, narrowed := true }
def FlightNoneUptoSaid : Prop := flightNoneUptoRow.holds Try.pinned (OpenSpec.upto flightNoneSpec)

end Rows
end Go.Proofs.Ytlcapliakfomhab
