/-
  No cell of these rows narrows 'for every input' (looked for: loops, veiled, ifaces, maps, wideKeys, modest, calm, conditions, laid).
  DERIVED. THE GIVEN ROWS OF THIS SEAT. 2 by the template 'for every input the law returns true; each argument reads behind the call as it read before'; 0 by the template 'total and deterministic' (their statements: YtokkghhmliplfaaGreatTotals.lean).
  GIVEN WITH THE SEED: the statements are not yours to turn. If you find one false, say at which input.
  Laid BY PROGRAM, IN A SANDBOX (cutbox-rows.mjs): the forced cells as the released guide's own fill.sh prints them over the translation 398ad45ee9f298a6… (all of the seat's roots in one cut). By AI agents, Wed Nov 11 2026. No macro, syntax, notation, axiom, sorry.
-/
import Derived.Test.YtokkghhmliplfaaGreatChecked
import GoSem.Claim
import GoSem.ClaimJoined
import GoSem.ClaimMapViews
import Derived.JoinedTies
import Derived.KernelRfl
namespace Go.Proofs.YtokkghhmliplfaaGreat
/- THE CELL 'sum', in the pinned program and in every row, IS THE sha256 OF THE DUMP (.gsa) THAT YtokkghhmliplfaaGreatProg.lean LOADS. Nothing in Lean hashes anything: it is a label: what it is worth is what the hold of that sum in a sandbox is worth. -/
noncomputable def Tryz.pinned : Pinned := { name := "ytokkghhmliplfaagreat", sum := "398ad45ee9f298a65f389eeaec8dc6d015234a50a6743e73a439b4f3a682823a", checked := Tryz.checked }
namespace Rows
def none {H : Type} : Left H := { results := [], args := [] }

/-- 'caromtop.TopEverySleep': WHATEVER THE INPUT: true; the input reads as it did. -/
def topEverySleepSpec : ChangeSpec := { name := "topEverySleep", fn := fun _ => fun
  | [d1, d2] => { results := [.lit (.bool true)], args := [d1, d2] }
  | _ => none }
def topEverySleepRow : OpenClaim := { program := "ytokkghhmliplfaagreat", sum := "398ad45ee9f298a65f389eeaec8dc6d015234a50a6743e73a439b4f3a682823a", func := "carom/caromtop.TopEverySleep", spec := "topEverySleep", unfollowed := true, recurses := true, plainKeys := false, apart := false }
def TopEverySleepSaid : Prop := topEverySleepRow.holds Tryz.pinned (OpenSpec.ofChange topEverySleepSpec)

/-- ITS FALSE NEIGHBOUR: 'it returns false'. Refute it at one input. -/
def topEverySleepWrong : ChangeSpec := { name := "topEverySleep", fn := fun _ => fun
  | [d1, d2] => { results := [.lit (.bool false)], args := [d1, d2] }
  | _ => none }
def TopEverySleepWrongFalsely : Prop := topEverySleepRow.holds Tryz.pinned (OpenSpec.ofChange topEverySleepWrong)

/-- 'caromtop.TopEveryRay': WHATEVER THE INPUT: true; the input reads as it did. -/
def topEveryRaySpec : ChangeSpec := { name := "topEveryRay", fn := fun _ => fun
  | [d1, d2, d3, d4] => { results := [.lit (.bool true)], args := [d1, d2, d3, d4] }
  | _ => none }
def topEveryRayRow : OpenClaim := { program := "ytokkghhmliplfaagreat", sum := "398ad45ee9f298a65f389eeaec8dc6d015234a50a6743e73a439b4f3a682823a", func := "carom/caromtop.TopEveryRay", spec := "topEveryRay", unfollowed := true, recurses := true, plainKeys := false, apart := false }
def TopEveryRaySaid : Prop := topEveryRayRow.holds Tryz.pinned (OpenSpec.ofChange topEveryRaySpec)

/-- ITS FALSE NEIGHBOUR: 'it returns false'. Refute it at one input. -/
def topEveryRayWrong : ChangeSpec := { name := "topEveryRay", fn := fun _ => fun
  | [d1, d2, d3, d4] => { results := [.lit (.bool false)], args := [d1, d2, d3, d4] }
  | _ => none }
def TopEveryRayWrongFalsely : Prop := topEveryRayRow.holds Tryz.pinned (OpenSpec.ofChange topEveryRayWrong)

/- THE SECOND FORM. 'bulk': how many values and letters a reading holds, each counted each time it is reached (what is shared counts as often as it is met; a slice's spare places count too). A statement '..UptoSaid' is the law's where the arguments, and the package variables that the reading takes, are together of bulk at most 1048576: NARROWER than '..Said'. Prove '..Said' where nothing that the law and all that it calls make is longer than what came in: it says more and counts as full. Else prove '..UptoSaid'. A law counts once. -/
mutual
def uptoBulk {H : Type} : DataW H → Nat
  | .lit (.string bytes) => bytes.length + 1
  | .lit _ => 1
  | .nil => 1
  | .ptr d => uptoBulk d + 1
  | .slice elems spare => uptoBulkAll elems + uptoBulkAll spare + 1
  | .agg parts => uptoBulkAll parts + 1
  | .iface _ d => uptoBulk d + 1
  | .map entries => uptoBulkEntries entries + 1
  | .held _ => 1
def uptoBulkAll {H : Type} : List (DataW H) → Nat
  | [] => 0
  | d :: r => uptoBulk d + uptoBulkAll r
def uptoBulkEntries {H : Type} : List (Lit × DataW H) → Nat
  | [] => 0
  | x :: r => uptoBulkEntry x + uptoBulkEntries r
def uptoBulkEntry {H : Type} : Lit × DataW H → Nat
  | (.string bytes, d) => bytes.length + uptoBulk d + 1
  | (_, d) => uptoBulk d + 1
 end
def uptoSmall : (H : Type) → List (DataW H) → Bool := fun _ ds => decide (uptoBulkAll ds ≤ 1048576)
def OpenSpec.upto (s : _root_.Go.ChangeSpec) : _root_.Go.OpenSpec := { _root_.Go.OpenSpec.ofChange s with cond := some uptoSmall }

/-- 'caromtop.TopEverySleep', WHERE WHAT IT READS IS OF BULK AT MOST 1048576: true; the input reads as it did. -/
def topEverySleepUptoRow : OpenClaim := { program := "ytokkghhmliplfaagreat", sum := "398ad45ee9f298a65f389eeaec8dc6d015234a50a6743e73a439b4f3a682823a", func := "carom/caromtop.TopEverySleep", spec := "topEverySleep", unfollowed := true, recurses := true, plainKeys := false, apart := false, narrowed := true }
def TopEverySleepUptoSaid : Prop := topEverySleepUptoRow.holds Tryz.pinned (OpenSpec.upto topEverySleepSpec)

/-- 'caromtop.TopEveryRay', WHERE WHAT IT READS IS OF BULK AT MOST 1048576: true; the input reads as it did. -/
def topEveryRayUptoRow : OpenClaim := { program := "ytokkghhmliplfaagreat", sum := "398ad45ee9f298a65f389eeaec8dc6d015234a50a6743e73a439b4f3a682823a", func := "carom/caromtop.TopEveryRay", spec := "topEveryRay", unfollowed := true, recurses := true, plainKeys := false, apart := false, narrowed := true }
def TopEveryRayUptoSaid : Prop := topEveryRayUptoRow.holds Tryz.pinned (OpenSpec.upto topEveryRaySpec)

end Rows
end Go.Proofs.YtokkghhmliplfaaGreat
