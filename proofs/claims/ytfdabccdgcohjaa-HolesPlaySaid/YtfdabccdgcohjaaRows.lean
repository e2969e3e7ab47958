/-
  No cell of these rows narrows 'for every input' (looked for: loops, veiled, ifaces, maps, wideKeys, modest, calm, conditions, laid).
  DERIVED. THE GIVEN ROWS OF THIS SEAT. 5 by the template 'for every input the law returns true; each argument reads behind the call as it read before'; 0 by the template 'total and deterministic' (their statements: YtfdabccdgcohjaaTotals.lean).
  GIVEN WITH THE SEED: the statements are not yours to turn. If you find one false, say at which input.
  Laid BY PROGRAM, IN A SANDBOX (cutbox-rows.mjs): the forced cells as the released guide's own fill.sh prints them over the translation ee7db9f00f58838a… (all of the seat's roots in one cut). By AI agents, Wed Nov 11 2026. No macro, syntax, notation, axiom, sorry.
-/
import Derived.Test.YtfdabccdgcohjaaChecked
import GoSem.Claim
import GoSem.ClaimJoined
import GoSem.ClaimMapViews
import Derived.JoinedTies
import Derived.KernelRfl
namespace Go.Proofs.Ytfdabccdgcohjaa
/- THE CELL 'sum', in the pinned program and in every row, IS THE sha256 OF THE DUMP (.gsa) THAT YtfdabccdgcohjaaProg.lean LOADS. Nothing in Lean hashes anything: it is a label: what it is worth is what the hold of that sum in a sandbox is worth. -/
noncomputable def Try.pinned : Pinned := { name := "ytfdabccdgcohjaa", sum := "ee7db9f00f58838ab07719a2e539ababd56bd183d1a78df2e13f21385bdac607", checked := Try.checked }
namespace Rows
def none {H : Type} : Left H := { results := [], args := [] }

/-- 'hourbooklaw21.HolesSure': WHATEVER THE INPUT: true; the input reads as it did. -/
def holesSureSpec : ChangeSpec := { name := "holesSure", fn := fun _ => fun
  | [d1, d2, d3] => { results := [.lit (.bool true)], args := [d1, d2, d3] }
  | _ => none }
def holesSureRow : OpenClaim := { program := "ytfdabccdgcohjaa", sum := "ee7db9f00f58838ab07719a2e539ababd56bd183d1a78df2e13f21385bdac607", func := "hourbook/hourbooklaw21.HolesSure", spec := "holesSure", inPlace := ["slices.overlaps[hourbook/holes.Stretch]"], unfollowed := true, recurses := true, apart := false }
def HolesSureSaid : Prop := holesSureRow.holds Try.pinned (OpenSpec.ofChange holesSureSpec)

/-- ITS FALSE NEIGHBOUR: 'it returns false'. Refute it at one input. -/
def holesSureWrong : ChangeSpec := { name := "holesSure", fn := fun _ => fun
  | [d1, d2, d3] => { results := [.lit (.bool false)], args := [d1, d2, d3] }
  | _ => none }
def HolesSureWrongFalsely : Prop := holesSureRow.holds Try.pinned (OpenSpec.ofChange holesSureWrong)

/-- 'hourbooklaw21.HolesSet': WHATEVER THE INPUT: true; the input reads as it did. -/
def holesSetSpec : ChangeSpec := { name := "holesSet", fn := fun _ => fun
  | [d1, d2] => { results := [.lit (.bool true)], args := [d1, d2] }
  | _ => none }
def holesSetRow : OpenClaim := { program := "ytfdabccdgcohjaa", sum := "ee7db9f00f58838ab07719a2e539ababd56bd183d1a78df2e13f21385bdac607", func := "hourbook/hourbooklaw21.HolesSet", spec := "holesSet", inPlace := ["slices.overlaps[hourbook/holes.Stretch]"], unfollowed := true, recurses := true, apart := false }
def HolesSetSaid : Prop := holesSetRow.holds Try.pinned (OpenSpec.ofChange holesSetSpec)

/-- ITS FALSE NEIGHBOUR: 'it returns false'. Refute it at one input. -/
def holesSetWrong : ChangeSpec := { name := "holesSet", fn := fun _ => fun
  | [d1, d2] => { results := [.lit (.bool false)], args := [d1, d2] }
  | _ => none }
def HolesSetWrongFalsely : Prop := holesSetRow.holds Try.pinned (OpenSpec.ofChange holesSetWrong)

/-- 'hourbooklaw21.HolesWide': WHATEVER THE INPUT: true; the input reads as it did. -/
def holesWideSpec : ChangeSpec := { name := "holesWide", fn := fun _ => fun
  | [d1, d2, d3] => { results := [.lit (.bool true)], args := [d1, d2, d3] }
  | _ => none }
def holesWideRow : OpenClaim := { program := "ytfdabccdgcohjaa", sum := "ee7db9f00f58838ab07719a2e539ababd56bd183d1a78df2e13f21385bdac607", func := "hourbook/hourbooklaw21.HolesWide", spec := "holesWide", inPlace := ["slices.overlaps[hourbook/holes.Stretch]"], unfollowed := true, recurses := true, apart := false }
def HolesWideSaid : Prop := holesWideRow.holds Try.pinned (OpenSpec.ofChange holesWideSpec)

/-- ITS FALSE NEIGHBOUR: 'it returns false'. Refute it at one input. -/
def holesWideWrong : ChangeSpec := { name := "holesWide", fn := fun _ => fun
  | [d1, d2, d3] => { results := [.lit (.bool false)], args := [d1, d2, d3] }
  | _ => none }
def HolesWideWrongFalsely : Prop := holesWideRow.holds Try.pinned (OpenSpec.ofChange holesWideWrong)

/-- 'hourbooklaw21.HolesPlay': WHATEVER THE INPUT: true; the input reads as it did. -/
def holesPlaySpec : ChangeSpec := { name := "holesPlay", fn := fun _ => fun
  | [d] => { results := [.lit (.bool true)], args := [d] }
  | _ => none }
def holesPlayRow : OpenClaim := { program := "ytfdabccdgcohjaa", sum := "ee7db9f00f58838ab07719a2e539ababd56bd183d1a78df2e13f21385bdac607", func := "hourbook/hourbooklaw21.HolesPlay", spec := "holesPlay", inPlace := ["slices.overlaps[hourbook/holes.Stretch]"], unfollowed := true, recurses := true, apart := false }
def HolesPlaySaid : Prop := holesPlayRow.holds Try.pinned (OpenSpec.ofChange holesPlaySpec)

/-- ITS FALSE NEIGHBOUR: 'it returns false'. Refute it at one input. -/
def holesPlayWrong : ChangeSpec := { name := "holesPlay", fn := fun _ => fun
  | [d] => { results := [.lit (.bool false)], args := [d] }
  | _ => none }
def HolesPlayWrongFalsely : Prop := holesPlayRow.holds Try.pinned (OpenSpec.ofChange holesPlayWrong)

/-- 'hourbooklaw21.HolesKnown': WHATEVER THE INPUT: true; the input reads as it did. -/
def holesKnownSpec : ChangeSpec := { name := "holesKnown", fn := fun _ => fun
  | [] => { results := [.lit (.bool true)], args := [] }
  | _ => none }
def holesKnownRow : OpenClaim := { program := "ytfdabccdgcohjaa", sum := "ee7db9f00f58838ab07719a2e539ababd56bd183d1a78df2e13f21385bdac607", func := "hourbook/hourbooklaw21.HolesKnown", spec := "holesKnown", inPlace := ["slices.overlaps[hourbook/holes.Stretch]"], unfollowed := true, recurses := true, apart := false }
def HolesKnownSaid : Prop := holesKnownRow.holds Try.pinned (OpenSpec.ofChange holesKnownSpec)

/-- ITS FALSE NEIGHBOUR: 'it returns false'. Refute it at one input. -/
def holesKnownWrong : ChangeSpec := { name := "holesKnown", fn := fun _ => fun
  | [] => { results := [.lit (.bool false)], args := [] }
  | _ => none }
def HolesKnownWrongFalsely : Prop := holesKnownRow.holds Try.pinned (OpenSpec.ofChange holesKnownWrong)

/- THE SECOND FORM. 'bulk': how many values and letters a reading holds, each counted each time it is reached (what is shared counts as often as it is met; a slice's spare places count too). A statement '..UptoSaid' is the law's where the arguments, and the package variables that the reading takes, are together of bulk at most 1048576: NARROWER than '..Said'. Prove '..Said' where nothing that the law and all that it calls make is longer than what came in: it says more and counts as full. Else prove '..UptoSaid'. A law counts once. -/
mutual
def uptoBulk {H : Type} : DataW H → Nat
  | .lit (.string bytes) => bytes.length + 1
  | .lit _ => 1
  | .nil => 1
  | .ptr d => uptoBulk d + 1
  | .slice elems spare => uptoBulkAll elems + uptoBulkAll spare + 1
  | .agg parts => uptoBulkAll parts + 1
  | .iface _ d => uptoBulk d + 1
  | .map entries => uptoBulkEntries entries + 1
  | .held _ => 1
def uptoBulkAll {H : Type} : List (DataW H) → Nat
  | [] => 0
  | d :: r => uptoBulk d + uptoBulkAll r
def uptoBulkEntries {H : Type} : List (Lit × DataW H) → Nat
  | [] => 0
  | x :: r => uptoBulkEntry x + uptoBulkEntries r
def uptoBulkEntry {H : Type} : Lit × DataW H → Nat
  | (.string bytes, d) => bytes.length + uptoBulk d + 1
  | (_, d) => uptoBulk d + 1
 end
def uptoSmall : (H : Type) → List (DataW H) → Bool := fun _ ds => decide (uptoBulkAll ds ≤ 1048576)
def OpenSpec.upto (s : _root_.Go.ChangeSpec) : _root_.Go.OpenSpec := { _root_.Go.OpenSpec.ofChange s with cond := some uptoSmall }

/-- 'hourbooklaw21.HolesSure', WHERE WHAT IT READS IS OF BULK AT MOST 1048576: true; the input reads as it did. -/
def holesSureUptoRow : OpenClaim := { program := "ytfdabccdgcohjaa", sum := "ee7db9f00f58838ab07719a2e539ababd56bd183d1a78df2e13f21385bdac607", func := "hourbook/hourbooklaw21.HolesSure", spec := "holesSure", inPlace := ["slices.overlaps[hourbook/holes.Stretch]"], unfollowed := true, recurses := true, apart := false, narrowed := true }
def HolesSureUptoSaid : Prop := holesSureUptoRow.holds Try.pinned (OpenSpec.upto holesSureSpec)

/-- 'hourbooklaw21.HolesSet', WHERE WHAT IT READS IS OF BULK AT MOST 1048576: true; the input reads as it did. -/
def holesSetUptoRow : OpenClaim := { program := "ytfdabccdgcohjaa", sum := "ee7db9f00f58838ab07719a2e539ababd56bd183d1a78df2e13f21385bdac607", func := "hourbook/hourbooklaw21.HolesSet", spec := "holesSet", inPlace := ["slices.overlaps[hourbook/holes.Stretch]"], unfollowed := true, recurses := true, apart := false, narrowed := true }
def HolesSetUptoSaid : Prop := holesSetUptoRow.holds Try.pinned (OpenSpec.upto holesSetSpec)

/-- 'hourbooklaw21.HolesWide', WHERE WHAT IT READS IS OF BULK AT MOST 1048576: true; the input reads as it did. -/
def holesWideUptoRow : OpenClaim := { program := "ytfdabccdgcohjaa", sum := "ee7db9f00f58838ab07719a2e539ababd56bd183d1a78df2e13f21385bdac607", func := "hourbook/hourbooklaw21.HolesWide", spec := "holesWide", inPlace := ["slices.overlaps[hourbook/holes.Stretch]"], unfollowed := true, recurses := true, apart := false, narrowed := true }
def HolesWideUptoSaid : Prop := holesWideUptoRow.holds Try.pinned (OpenSpec.upto holesWideSpec)

/-- 'hourbooklaw21.HolesPlay', WHERE WHAT IT READS IS OF BULK AT MOST 1048576: true; the input reads as it did. -/
def holesPlayUptoRow : OpenClaim := { program := "ytfdabccdgcohjaa", sum := "ee7db9f00f58838ab07719a2e539ababd56bd183d1a78df2e13f21385bdac607", func := "hourbook/hourbooklaw21.HolesPlay", spec := "holesPlay", inPlace := ["slices.overlaps[hourbook/holes.Stretch]"], unfollowed := true, recurses := true, apart := false, narrowed := true }
def HolesPlayUptoSaid : Prop := holesPlayUptoRow.holds Try.pinned (OpenSpec.upto holesPlaySpec)

/-- 'hourbooklaw21.HolesKnown', WHERE WHAT IT READS IS OF BULK AT MOST 1048576: true; the input reads as it did. -/
def holesKnownUptoRow : OpenClaim := { program := "ytfdabccdgcohjaa", sum := "ee7db9f00f58838ab07719a2e539ababd56bd183d1a78df2e13f21385bdac607", func := "hourbook/hourbooklaw21.HolesKnown", spec := "holesKnown", inPlace := ["slices.overlaps[hourbook/holes.Stretch]"], unfollowed := true, recurses := true, apart := false, narrowed := true }
def HolesKnownUptoSaid : Prop := holesKnownUptoRow.holds Try.pinned (OpenSpec.upto holesKnownSpec)

end Rows
end Go.Proofs.Ytfdabccdgcohjaa
