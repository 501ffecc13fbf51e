/-
  No cell of these rows narrows 'for every input' (looked for: loops, veiled, ifaces, maps, wideKeys, modest, calm, conditions, laid).
  DERIVED. THE GIVEN ROWS OF THIS SEAT. 9 by the template 'for every input the law returns true; each argument reads behind the call as it read before'; 0 by the template 'total and deterministic' (their statements: YtnmkbnejapdnnaaTotals.lean).
  GIVEN WITH THE SEED: the statements are not yours to turn. If you find one false, say at which input.
  Laid BY PROGRAM, IN A SANDBOX (cutbox-rows.mjs): the forced cells as the released guide's own fill.sh prints them over the translation 93a906f743e271d7… (all of the seat's roots in one cut). By AI agents, Wed Nov 11 2026. No macro, syntax, notation, axiom, sorry.
-/
import Derived.Test.YtnmkbnejapdnnaaChecked
import GoSem.Claim
import GoSem.ClaimJoined
import GoSem.ClaimMapViews
import Derived.JoinedTies
import Derived.KernelRfl
namespace Go.Proofs.Ytnmkbnejapdnnaa
/- THE CELL 'sum', in the pinned program and in every row, IS THE sha256 OF THE DUMP (.gsa) THAT YtnmkbnejapdnnaaProg.lean LOADS. Nothing in Lean hashes anything: it is a label: what it is worth is what the hold of that sum in a sandbox is worth. -/
noncomputable def Try.pinned : Pinned := { name := "ytnmkbnejapdnnaa", sum := "93a906f743e271d7d2d48ba8c9ef094152d4dcb7c4fcb7df9b3bd1bef934ff88", checked := Try.checked }
namespace Rows
def none {H : Type} : Left H := { results := [], args := [] }

/-- 'forecourtlaw09.PoleSigns': WHATEVER THE INPUT: true; the input reads as it did. -/
def poleSignsSpec : ChangeSpec := { name := "poleSigns", fn := fun _ => fun
  | [d1, d2, d3] => { results := [.lit (.bool true)], args := [d1, d2, d3] }
  | _ => none }
def poleSignsRow : OpenClaim := { program := "ytnmkbnejapdnnaa", sum := "93a906f743e271d7d2d48ba8c9ef094152d4dcb7c4fcb7df9b3bd1bef934ff88", func := "forecourt/forecourtlaw09.PoleSigns", spec := "poleSigns", unfollowed := true, recurses := true, apart := false }
def PoleSignsSaid : Prop := poleSignsRow.holds Try.pinned (OpenSpec.ofChange poleSignsSpec)

/-- ITS FALSE NEIGHBOUR: 'it returns false'. Refute it at one input. -/
def poleSignsWrong : ChangeSpec := { name := "poleSigns", fn := fun _ => fun
  | [d1, d2, d3] => { results := [.lit (.bool false)], args := [d1, d2, d3] }
  | _ => none }
def PoleSignsWrongFalsely : Prop := poleSignsRow.holds Try.pinned (OpenSpec.ofChange poleSignsWrong)

/-- 'forecourtlaw09.PoleCheats': WHATEVER THE INPUT: true; the input reads as it did. -/
def poleCheatsSpec : ChangeSpec := { name := "poleCheats", fn := fun _ => fun
  | [d1, d2, d3] => { results := [.lit (.bool true)], args := [d1, d2, d3] }
  | _ => none }
def poleCheatsRow : OpenClaim := { program := "ytnmkbnejapdnnaa", sum := "93a906f743e271d7d2d48ba8c9ef094152d4dcb7c4fcb7df9b3bd1bef934ff88", func := "forecourt/forecourtlaw09.PoleCheats", spec := "poleCheats", unfollowed := true, recurses := true, apart := false }
def PoleCheatsSaid : Prop := poleCheatsRow.holds Try.pinned (OpenSpec.ofChange poleCheatsSpec)

/-- ITS FALSE NEIGHBOUR: 'it returns false'. Refute it at one input. -/
def poleCheatsWrong : ChangeSpec := { name := "poleCheats", fn := fun _ => fun
  | [d1, d2, d3] => { results := [.lit (.bool false)], args := [d1, d2, d3] }
  | _ => none }
def PoleCheatsWrongFalsely : Prop := poleCheatsRow.holds Try.pinned (OpenSpec.ofChange poleCheatsWrong)

/-- 'forecourtlaw09.PoleTables': WHATEVER THE INPUT: true; the input reads as it did. -/
def poleTablesSpec : ChangeSpec := { name := "poleTables", fn := fun _ => fun
  | [d1, d2] => { results := [.lit (.bool true)], args := [d1, d2] }
  | _ => none }
def poleTablesRow : OpenClaim := { program := "ytnmkbnejapdnnaa", sum := "93a906f743e271d7d2d48ba8c9ef094152d4dcb7c4fcb7df9b3bd1bef934ff88", func := "forecourt/forecourtlaw09.PoleTables", spec := "poleTables", unfollowed := true, recurses := true, apart := false }
def PoleTablesSaid : Prop := poleTablesRow.holds Try.pinned (OpenSpec.ofChange poleTablesSpec)

/-- ITS FALSE NEIGHBOUR: 'it returns false'. Refute it at one input. -/
def poleTablesWrong : ChangeSpec := { name := "poleTables", fn := fun _ => fun
  | [d1, d2] => { results := [.lit (.bool false)], args := [d1, d2] }
  | _ => none }
def PoleTablesWrongFalsely : Prop := poleTablesRow.holds Try.pinned (OpenSpec.ofChange poleTablesWrong)

/-- 'forecourtlaw09.PoleForces': WHATEVER THE INPUT: true; the input reads as it did. -/
def poleForcesSpec : ChangeSpec := { name := "poleForces", fn := fun _ => fun
  | [d1, d2, d3, d4] => { results := [.lit (.bool true)], args := [d1, d2, d3, d4] }
  | _ => none }
def poleForcesRow : OpenClaim := { program := "ytnmkbnejapdnnaa", sum := "93a906f743e271d7d2d48ba8c9ef094152d4dcb7c4fcb7df9b3bd1bef934ff88", func := "forecourt/forecourtlaw09.PoleForces", spec := "poleForces", unfollowed := true, recurses := true, apart := false }
def PoleForcesSaid : Prop := poleForcesRow.holds Try.pinned (OpenSpec.ofChange poleForcesSpec)

/-- ITS FALSE NEIGHBOUR: 'it returns false'. Refute it at one input. -/
def poleForcesWrong : ChangeSpec := { name := "poleForces", fn := fun _ => fun
  | [d1, d2, d3, d4] => { results := [.lit (.bool false)], args := [d1, d2, d3, d4] }
  | _ => none }
def PoleForcesWrongFalsely : Prop := poleForcesRow.holds Try.pinned (OpenSpec.ofChange poleForcesWrong)

/-- 'forecourtlaw09.PoleFair': WHATEVER THE INPUT: true; the input reads as it did. -/
def poleFairSpec : ChangeSpec := { name := "poleFair", fn := fun _ => fun
  | [d1, d2, d3, d4, d5] => { results := [.lit (.bool true)], args := [d1, d2, d3, d4, d5] }
  | _ => none }
def poleFairRow : OpenClaim := { program := "ytnmkbnejapdnnaa", sum := "93a906f743e271d7d2d48ba8c9ef094152d4dcb7c4fcb7df9b3bd1bef934ff88", func := "forecourt/forecourtlaw09.PoleFair", spec := "poleFair", unfollowed := true, recurses := true, apart := false }
def PoleFairSaid : Prop := poleFairRow.holds Try.pinned (OpenSpec.ofChange poleFairSpec)

/-- ITS FALSE NEIGHBOUR: 'it returns false'. Refute it at one input. -/
def poleFairWrong : ChangeSpec := { name := "poleFair", fn := fun _ => fun
  | [d1, d2, d3, d4, d5] => { results := [.lit (.bool false)], args := [d1, d2, d3, d4, d5] }
  | _ => none }
def PoleFairWrongFalsely : Prop := poleFairRow.holds Try.pinned (OpenSpec.ofChange poleFairWrong)

/-- 'forecourtlaw09.PoleClocks': WHATEVER THE INPUT: true; the input reads as it did. -/
def poleClocksSpec : ChangeSpec := { name := "poleClocks", fn := fun _ => fun
  | [d1, d2, d3, d4, d5, d6] => { results := [.lit (.bool true)], args := [d1, d2, d3, d4, d5, d6] }
  | _ => none }
def poleClocksRow : OpenClaim := { program := "ytnmkbnejapdnnaa", sum := "93a906f743e271d7d2d48ba8c9ef094152d4dcb7c4fcb7df9b3bd1bef934ff88", func := "forecourt/forecourtlaw09.PoleClocks", spec := "poleClocks", unfollowed := true, recurses := true, apart := false }
def PoleClocksSaid : Prop := poleClocksRow.holds Try.pinned (OpenSpec.ofChange poleClocksSpec)

/-- ITS FALSE NEIGHBOUR: 'it returns false'. Refute it at one input. -/
def poleClocksWrong : ChangeSpec := { name := "poleClocks", fn := fun _ => fun
  | [d1, d2, d3, d4, d5, d6] => { results := [.lit (.bool false)], args := [d1, d2, d3, d4, d5, d6] }
  | _ => none }
def PoleClocksWrongFalsely : Prop := poleClocksRow.holds Try.pinned (OpenSpec.ofChange poleClocksWrong)

/-- 'forecourtlaw09.PoleCoins': WHATEVER THE INPUT: true; the input reads as it did. -/
def poleCoinsSpec : ChangeSpec := { name := "poleCoins", fn := fun _ => fun
  | [d1, d2] => { results := [.lit (.bool true)], args := [d1, d2] }
  | _ => none }
def poleCoinsRow : OpenClaim := { program := "ytnmkbnejapdnnaa", sum := "93a906f743e271d7d2d48ba8c9ef094152d4dcb7c4fcb7df9b3bd1bef934ff88", func := "forecourt/forecourtlaw09.PoleCoins", spec := "poleCoins", unfollowed := true, recurses := true, apart := false }
def PoleCoinsSaid : Prop := poleCoinsRow.holds Try.pinned (OpenSpec.ofChange poleCoinsSpec)

/-- ITS FALSE NEIGHBOUR: 'it returns false'. Refute it at one input. -/
def poleCoinsWrong : ChangeSpec := { name := "poleCoins", fn := fun _ => fun
  | [d1, d2] => { results := [.lit (.bool false)], args := [d1, d2] }
  | _ => none }
def PoleCoinsWrongFalsely : Prop := poleCoinsRow.holds Try.pinned (OpenSpec.ofChange poleCoinsWrong)

/-- 'forecourtlaw09.PoleEitherWay': WHATEVER THE INPUT: true; the input reads as it did. -/
def poleEitherWaySpec : ChangeSpec := { name := "poleEitherWay", fn := fun _ => fun
  | [d1, d2, d3] => { results := [.lit (.bool true)], args := [d1, d2, d3] }
  | _ => none }
def poleEitherWayRow : OpenClaim := { program := "ytnmkbnejapdnnaa", sum := "93a906f743e271d7d2d48ba8c9ef094152d4dcb7c4fcb7df9b3bd1bef934ff88", func := "forecourt/forecourtlaw09.PoleEitherWay", spec := "poleEitherWay", unfollowed := true, recurses := true, apart := false }
def PoleEitherWaySaid : Prop := poleEitherWayRow.holds Try.pinned (OpenSpec.ofChange poleEitherWaySpec)

/-- ITS FALSE NEIGHBOUR: 'it returns false'. Refute it at one input. -/
def poleEitherWayWrong : ChangeSpec := { name := "poleEitherWay", fn := fun _ => fun
  | [d1, d2, d3] => { results := [.lit (.bool false)], args := [d1, d2, d3] }
  | _ => none }
def PoleEitherWayWrongFalsely : Prop := poleEitherWayRow.holds Try.pinned (OpenSpec.ofChange poleEitherWayWrong)

/-- 'forecourtlaw09.PoleTurned': WHATEVER THE INPUT: true; the input reads as it did. -/
def poleTurnedSpec : ChangeSpec := { name := "poleTurned", fn := fun _ => fun
  | [d1, d2, d3, d4, d5] => { results := [.lit (.bool true)], args := [d1, d2, d3, d4, d5] }
  | _ => none }
def poleTurnedRow : OpenClaim := { program := "ytnmkbnejapdnnaa", sum := "93a906f743e271d7d2d48ba8c9ef094152d4dcb7c4fcb7df9b3bd1bef934ff88", func := "forecourt/forecourtlaw09.PoleTurned", spec := "poleTurned", unfollowed := true, recurses := true, apart := false }
def PoleTurnedSaid : Prop := poleTurnedRow.holds Try.pinned (OpenSpec.ofChange poleTurnedSpec)

/-- ITS FALSE NEIGHBOUR: 'it returns false'. Refute it at one input. -/
def poleTurnedWrong : ChangeSpec := { name := "poleTurned", fn := fun _ => fun
  | [d1, d2, d3, d4, d5] => { results := [.lit (.bool false)], args := [d1, d2, d3, d4, d5] }
  | _ => none }
def PoleTurnedWrongFalsely : Prop := poleTurnedRow.holds Try.pinned (OpenSpec.ofChange poleTurnedWrong)

/- THE SECOND FORM. 'bulk': how many values and letters a reading holds, each counted each time it is reached (what is shared counts as often as it is met; a slice's spare places count too). A statement '..UptoSaid' is the law's where the arguments, and the package variables that the reading takes, are together of bulk at most 1048576: NARROWER than '..Said'. Prove '..Said' where nothing that the law and all that it calls make is longer than what came in: it says more and counts as full. Else prove '..UptoSaid'. A law counts once. -/
mutual
def uptoBulk {H : Type} : DataW H → Nat
  | .lit (.string bytes) => bytes.length + 1
  | .lit _ => 1
  | .nil => 1
  | .ptr d => uptoBulk d + 1
  | .slice elems spare => uptoBulkAll elems + uptoBulkAll spare + 1
  | .agg parts => uptoBulkAll parts + 1
  | .iface _ d => uptoBulk d + 1
  | .map entries => uptoBulkEntries entries + 1
  | .held _ => 1
def uptoBulkAll {H : Type} : List (DataW H) → Nat
  | [] => 0
  | d :: r => uptoBulk d + uptoBulkAll r
def uptoBulkEntries {H : Type} : List (Lit × DataW H) → Nat
  | [] => 0
  | x :: r => uptoBulkEntry x + uptoBulkEntries r
def uptoBulkEntry {H : Type} : Lit × DataW H → Nat
  | (.string bytes, d) => bytes.length + uptoBulk d + 1
  | (_, d) => uptoBulk d + 1
 end
def uptoSmall : (H : Type) → List (DataW H) → Bool := fun _ ds => decide (uptoBulkAll ds ≤ 1048576)
def OpenSpec.upto (s : _root_.Go.ChangeSpec) : _root_.Go.OpenSpec := { _root_.Go.OpenSpec.ofChange s with cond := some uptoSmall }

/-- 'forecourtlaw09.PoleSigns', WHERE WHAT IT READS IS OF BULK AT MOST 1048576: true; the input reads as it did. -/
def poleSignsUptoRow : OpenClaim := { program := "ytnmkbnejapdnnaa", sum := "93a906f743e271d7d2d48ba8c9ef094152d4dcb7c4fcb7df9b3bd1bef934ff88", func := "forecourt/forecourtlaw09.PoleSigns", spec := "poleSigns", unfollowed := true, recurses := true, apart := false, narrowed := true }
def PoleSignsUptoSaid : Prop := poleSignsUptoRow.holds Try.pinned (OpenSpec.upto poleSignsSpec)

/-- 'forecourtlaw09.PoleCheats', WHERE WHAT IT READS IS OF BULK AT MOST 1048576: true; the input reads as it did. -/
def poleCheatsUptoRow : OpenClaim := { program := "ytnmkbnejapdnnaa", sum := "93a906f743e271d7d2d48ba8c9ef094152d4dcb7c4fcb7df9b3bd1bef934ff88", func := "forecourt/forecourtlaw09.PoleCheats", spec := "poleCheats", unfollowed := true, recurses := true, apart := false, narrowed := true }
def PoleCheatsUptoSaid : Prop := poleCheatsUptoRow.holds Try.pinned (OpenSpec.upto poleCheatsSpec)

/-- 'forecourtlaw09.PoleTables', WHERE WHAT IT READS IS OF BULK AT MOST 1048576: true; the input reads as it did. -/
def poleTablesUptoRow : OpenClaim := { program := "ytnmkbnejapdnnaa", sum := "93a906f743e271d7d2d48ba8c9ef094152d4dcb7c4fcb7df9b3bd1bef934ff88", func := "forecourt/forecourtlaw09.PoleTables", spec := "poleTables", unfollowed := true, recurses := true, apart := false, narrowed := true }
def PoleTablesUptoSaid : Prop := poleTablesUptoRow.holds Try.pinned (OpenSpec.upto poleTablesSpec)

/-- 'forecourtlaw09.PoleForces', WHERE WHAT IT READS IS OF BULK AT MOST 1048576: true; the input reads as it did. -/
def poleForcesUptoRow : OpenClaim := { program := "ytnmkbnejapdnnaa", sum := "93a906f743e271d7d2d48ba8c9ef094152d4dcb7c4fcb7df9b3bd1bef934ff88", func := "forecourt/forecourtlaw09.PoleForces", spec := "poleForces", unfollowed := true, recurses := true, apart := false, narrowed := true }
def PoleForcesUptoSaid : Prop := poleForcesUptoRow.holds Try.pinned (OpenSpec.upto poleForcesSpec)

/-- 'forecourtlaw09.PoleFair', WHERE WHAT IT READS IS OF BULK AT MOST 1048576: true; the input reads as it did. -/
def poleFairUptoRow : OpenClaim := { program := "ytnmkbnejapdnnaa", sum := "93a906f743e271d7d2d48ba8c9ef094152d4dcb7c4fcb7df9b3bd1bef934ff88", func := "forecourt/forecourtlaw09.PoleFair", spec := "poleFair", unfollowed := true, recurses := true, apart := false, narrowed := true }
def PoleFairUptoSaid : Prop := poleFairUptoRow.holds Try.pinned (OpenSpec.upto poleFairSpec)

/-- 'forecourtlaw09.PoleClocks', WHERE WHAT IT READS IS OF BULK AT MOST 1048576: true; the input reads as it did. -/
def poleClocksUptoRow : OpenClaim := { program := "ytnmkbnejapdnnaa", sum := "93a906f743e271d7d2d48ba8c9ef094152d4dcb7c4fcb7df9b3bd1bef934ff88", func := "forecourt/forecourtlaw09.PoleClocks", spec := "poleClocks", unfollowed := true, recurses := true, apart := false, narrowed := true }
def PoleClocksUptoSaid : Prop := poleClocksUptoRow.holds Try.pinned (OpenSpec.upto poleClocksSpec)

/-- 'forecourtlaw09.PoleCoins', WHERE WHAT IT READS IS OF BULK AT MOST 1048576: true; the input reads as it did. -/
def poleCoinsUptoRow : OpenClaim := { program := "ytnmkbnejapdnnaa", sum := "93a906f743e271d7d2d48ba8c9ef094152d4dcb7c4fcb7df9b3bd1bef934ff88", func := "forecourt/forecourtlaw09.PoleCoins", spec := "poleCoins", unfollowed := true, recurses := true, apart := false, narrowed := true }
def PoleCoinsUptoSaid : Prop := poleCoinsUptoRow.holds Try.pinned (OpenSpec.upto poleCoinsSpec)

/-- 'forecourtlaw09.PoleEitherWay', WHERE WHAT IT READS IS OF BULK AT MOST 1048576: true; the input reads as it did. -/
def poleEitherWayUptoRow : OpenClaim := { program := "ytnmkbnejapdnnaa", sum := "93a906f743e271d7d2d48ba8c9ef094152d4dcb7c4fcb7df9b3bd1bef934ff88", func := "forecourt/forecourtlaw09.PoleEitherWay", spec := "poleEitherWay", unfollowed := true, recurses := true, apart := false, narrowed := true }
def PoleEitherWayUptoSaid : Prop := poleEitherWayUptoRow.holds Try.pinned (OpenSpec.upto poleEitherWaySpec)

/-- 'forecourtlaw09.PoleTurned', WHERE WHAT IT READS IS OF BULK AT MOST 1048576: true; the input reads as it did. -/
def poleTurnedUptoRow : OpenClaim := { program := "ytnmkbnejapdnnaa", sum := "93a906f743e271d7d2d48ba8c9ef094152d4dcb7c4fcb7df9b3bd1bef934ff88", func := "forecourt/forecourtlaw09.PoleTurned", spec := "poleTurned", unfollowed := true, recurses := true, apart := false, narrowed := true }
def PoleTurnedUptoSaid : Prop := poleTurnedUptoRow.holds Try.pinned (OpenSpec.upto poleTurnedSpec)

end Rows
end Go.Proofs.Ytnmkbnejapdnnaa
