/-
  No cell of these rows narrows 'for every input' (looked for: loops, veiled, ifaces, maps, wideKeys, modest, calm, conditions, laid).
  DERIVED. THE GIVEN ROWS OF THIS SEAT. 5 by the template 'for every input the law returns true; each argument reads behind the call as it read before'; 0 by the template 'total and deterministic' (their statements: YtjhpjjbnojbikaaGreatTotals.lean).
  GIVEN WITH THE SEED: the statements are not yours to turn. If you find one false, say at which input.
  Laid BY PROGRAM, IN A SANDBOX (cutbox-rows.mjs): the forced cells as the released guide's own fill.sh prints them over the translation 86e0ac14fd60e4f7… (all of the seat's roots in one cut). By AI agents, Wed Nov 11 2026. No macro, syntax, notation, axiom, sorry.
-/
import Derived.Test.YtjhpjjbnojbikaaGreatChecked
import GoSem.Claim
import GoSem.ClaimJoined
import GoSem.ClaimMapViews
import Derived.JoinedTies
import Derived.KernelRfl
namespace Go.Proofs.YtjhpjjbnojbikaaGreat
/- THE CELL 'sum', in the pinned program and in every row, IS THE sha256 OF THE DUMP (.gsa) THAT YtjhpjjbnojbikaaGreatProg.lean LOADS. Nothing in Lean hashes anything: it is a label: what it is worth is what the hold of that sum in a sandbox is worth. -/
noncomputable def Tryz.pinned : Pinned := { name := "ytjhpjjbnojbikaagreat", sum := "86e0ac14fd60e4f71da00d1b8b966c752bbb29d79e944fe72c80b40678da8dea", checked := Tryz.checked }
namespace Rows
def none {H : Type} : Left H := { results := [], args := [] }

/-- 'gemotlaw13.SeatOne': WHATEVER THE INPUT: true; the input reads as it did. -/
def seatOneSpec : ChangeSpec := { name := "seatOne", fn := fun _ => fun
  | [d1, d2, d3] => { results := [.lit (.bool true)], args := [d1, d2, d3] }
  | _ => none }
def seatOneRow : OpenClaim := { program := "ytjhpjjbnojbikaagreat", sum := "86e0ac14fd60e4f71da00d1b8b966c752bbb29d79e944fe72c80b40678da8dea", func := "gemot/gemotlaw13.SeatOne", spec := "seatOne", unfollowed := true, recurses := true, plainKeys := false, apart := false }
def SeatOneSaid : Prop := seatOneRow.holds Tryz.pinned (OpenSpec.ofChange seatOneSpec)

/-- ITS FALSE NEIGHBOUR: 'it returns false'. Refute it at one input. -/
def seatOneWrong : ChangeSpec := { name := "seatOne", fn := fun _ => fun
  | [d1, d2, d3] => { results := [.lit (.bool false)], args := [d1, d2, d3] }
  | _ => none }
def SeatOneWrongFalsely : Prop := seatOneRow.holds Tryz.pinned (OpenSpec.ofChange seatOneWrong)

/-- 'gemotlaw13.SeatKeeps': WHATEVER THE INPUT: true; the input reads as it did. -/
def seatKeepsSpec : ChangeSpec := { name := "seatKeeps", fn := fun _ => fun
  | [d1, d2, d3, d4] => { results := [.lit (.bool true)], args := [d1, d2, d3, d4] }
  | _ => none }
def seatKeepsRow : OpenClaim := { program := "ytjhpjjbnojbikaagreat", sum := "86e0ac14fd60e4f71da00d1b8b966c752bbb29d79e944fe72c80b40678da8dea", func := "gemot/gemotlaw13.SeatKeeps", spec := "seatKeeps", unfollowed := true, recurses := true, plainKeys := false, apart := false }
def SeatKeepsSaid : Prop := seatKeepsRow.holds Tryz.pinned (OpenSpec.ofChange seatKeepsSpec)

/-- ITS FALSE NEIGHBOUR: 'it returns false'. Refute it at one input. -/
def seatKeepsWrong : ChangeSpec := { name := "seatKeeps", fn := fun _ => fun
  | [d1, d2, d3, d4] => { results := [.lit (.bool false)], args := [d1, d2, d3, d4] }
  | _ => none }
def SeatKeepsWrongFalsely : Prop := seatKeepsRow.holds Tryz.pinned (OpenSpec.ofChange seatKeepsWrong)

/-- 'gemotlaw13.SeatCalm': WHATEVER THE INPUT: true; the input reads as it did. -/
def seatCalmSpec : ChangeSpec := { name := "seatCalm", fn := fun _ => fun
  | [d1, d2] => { results := [.lit (.bool true)], args := [d1, d2] }
  | _ => none }
def seatCalmRow : OpenClaim := { program := "ytjhpjjbnojbikaagreat", sum := "86e0ac14fd60e4f71da00d1b8b966c752bbb29d79e944fe72c80b40678da8dea", func := "gemot/gemotlaw13.SeatCalm", spec := "seatCalm", unfollowed := true, recurses := true, plainKeys := false, apart := false }
def SeatCalmSaid : Prop := seatCalmRow.holds Tryz.pinned (OpenSpec.ofChange seatCalmSpec)

/-- ITS FALSE NEIGHBOUR: 'it returns false'. Refute it at one input. -/
def seatCalmWrong : ChangeSpec := { name := "seatCalm", fn := fun _ => fun
  | [d1, d2] => { results := [.lit (.bool false)], args := [d1, d2] }
  | _ => none }
def SeatCalmWrongFalsely : Prop := seatCalmRow.holds Tryz.pinned (OpenSpec.ofChange seatCalmWrong)

/-- 'gemotlaw13.SeatJoins': WHATEVER THE INPUT: true; the input reads as it did. -/
def seatJoinsSpec : ChangeSpec := { name := "seatJoins", fn := fun _ => fun
  | [d1, d2, d3] => { results := [.lit (.bool true)], args := [d1, d2, d3] }
  | _ => none }
def seatJoinsRow : OpenClaim := { program := "ytjhpjjbnojbikaagreat", sum := "86e0ac14fd60e4f71da00d1b8b966c752bbb29d79e944fe72c80b40678da8dea", func := "gemot/gemotlaw13.SeatJoins", spec := "seatJoins", unfollowed := true, recurses := true, plainKeys := false, apart := false }
def SeatJoinsSaid : Prop := seatJoinsRow.holds Tryz.pinned (OpenSpec.ofChange seatJoinsSpec)

/-- ITS FALSE NEIGHBOUR: 'it returns false'. Refute it at one input. -/
def seatJoinsWrong : ChangeSpec := { name := "seatJoins", fn := fun _ => fun
  | [d1, d2, d3] => { results := [.lit (.bool false)], args := [d1, d2, d3] }
  | _ => none }
def SeatJoinsWrongFalsely : Prop := seatJoinsRow.holds Tryz.pinned (OpenSpec.ofChange seatJoinsWrong)

/-- 'gemotlaw13.SeatFails': WHATEVER THE INPUT: true; the input reads as it did. -/
def seatFailsSpec : ChangeSpec := { name := "seatFails", fn := fun _ => fun
  | [d1, d2, d3] => { results := [.lit (.bool true)], args := [d1, d2, d3] }
  | _ => none }
def seatFailsRow : OpenClaim := { program := "ytjhpjjbnojbikaagreat", sum := "86e0ac14fd60e4f71da00d1b8b966c752bbb29d79e944fe72c80b40678da8dea", func := "gemot/gemotlaw13.SeatFails", spec := "seatFails", unfollowed := true, recurses := true, plainKeys := false, apart := false }
def SeatFailsSaid : Prop := seatFailsRow.holds Tryz.pinned (OpenSpec.ofChange seatFailsSpec)

/-- ITS FALSE NEIGHBOUR: 'it returns false'. Refute it at one input. -/
def seatFailsWrong : ChangeSpec := { name := "seatFails", fn := fun _ => fun
  | [d1, d2, d3] => { results := [.lit (.bool false)], args := [d1, d2, d3] }
  | _ => none }
def SeatFailsWrongFalsely : Prop := seatFailsRow.holds Tryz.pinned (OpenSpec.ofChange seatFailsWrong)

/- THE SECOND FORM. 'bulk': how many values and letters a reading holds, each counted each time it is reached (what is shared counts as often as it is met; a slice's spare places count too). A statement '..UptoSaid' is the law's where the arguments, and the package variables that the reading takes, are together of bulk at most 1048576: NARROWER than '..Said'. Prove '..Said' where nothing that the law and all that it calls make is longer than what came in: it says more and counts as full. Else prove '..UptoSaid'. A law counts once. -/
mutual
def uptoBulk {H : Type} : DataW H → Nat
  | .lit (.string bytes) => bytes.length + 1
  | .lit _ => 1
  | .nil => 1
  | .ptr d => uptoBulk d + 1
  | .slice elems spare => uptoBulkAll elems + uptoBulkAll spare + 1
  | .agg parts => uptoBulkAll parts + 1
  | .iface _ d => uptoBulk d + 1
  | .map entries => uptoBulkEntries entries + 1
  | .held _ => 1
def uptoBulkAll {H : Type} : List (DataW H) → Nat
  | [] => 0
  | d :: r => uptoBulk d + uptoBulkAll r
def uptoBulkEntries {H : Type} : List (Lit × DataW H) → Nat
  | [] => 0
  | x :: r => uptoBulkEntry x + uptoBulkEntries r
def uptoBulkEntry {H : Type} : Lit × DataW H → Nat
  | (.string bytes, d) => bytes.length + uptoBulk d + 1
  | (_, d) => uptoBulk d + 1
 end
def uptoSmall : (H : Type) → List (DataW H) → Bool := fun _ ds => decide (uptoBulkAll ds ≤ 1048576)
def OpenSpec.upto (s : _root_.Go.ChangeSpec) : _root_.Go.OpenSpec := { _root_.Go.OpenSpec.ofChange s with cond := some uptoSmall }

/-- 'gemotlaw13.SeatOne', WHERE WHAT IT READS IS OF BULK AT MOST 1048576: true; the input reads as it did. -/
def seatOneUptoRow : OpenClaim := { program := "ytjhpjjbnojbikaagreat", sum := "86e0ac14fd60e4f71da00d1b8b966c752bbb29d79e944fe72c80b40678da8dea", func := "gemot/gemotlaw13.SeatOne", spec := "seatOne", unfollowed := true, recurses := true, plainKeys := false, apart := false, narrowed := true }
def SeatOneUptoSaid : Prop := seatOneUptoRow.holds Tryz.pinned (OpenSpec.upto seatOneSpec)

/-- 'gemotlaw13.SeatKeeps', WHERE WHAT IT READS IS OF BULK AT MOST 1048576: true; the input reads as it did. -/
def seatKeepsUptoRow : OpenClaim := { program := "ytjhpjjbnojbikaagreat", sum := "86e0ac14fd60e4f71da00d1b8b966c752bbb29d79e944fe72c80b40678da8dea", func := "gemot/gemotlaw13.SeatKeeps", spec := "seatKeeps", unfollowed := true, recurses := true, plainKeys := false, apart := false, narrowed := true }
def SeatKeepsUptoSaid : Prop := seatKeepsUptoRow.holds Tryz.pinned (OpenSpec.upto seatKeepsSpec)

/-- 'gemotlaw13.SeatCalm', WHERE WHAT IT READS IS OF BULK AT MOST 1048576: true; the input reads as it did. -/
def seatCalmUptoRow : OpenClaim := { program := "ytjhpjjbnojbikaagreat", sum := "86e0ac14fd60e4f71da00d1b8b966c752bbb29d79e944fe72c80b40678da8dea", func := "gemot/gemotlaw13.SeatCalm", spec := "seatCalm", unfollowed := true, recurses := true, plainKeys := false, apart := false, narrowed := true }
def SeatCalmUptoSaid : Prop := seatCalmUptoRow.holds Tryz.pinned (OpenSpec.upto seatCalmSpec)

/-- 'gemotlaw13.SeatJoins', WHERE WHAT IT READS IS OF BULK AT MOST 1048576: true; the input reads as it did. -/
def seatJoinsUptoRow : OpenClaim := { program := "ytjhpjjbnojbikaagreat", sum := "86e0ac14fd60e4f71da00d1b8b966c752bbb29d79e944fe72c80b40678da8dea", func := "gemot/gemotlaw13.SeatJoins", spec := "seatJoins", unfollowed := true, recurses := true, plainKeys := false, apart := false, narrowed := true }
def SeatJoinsUptoSaid : Prop := seatJoinsUptoRow.holds Tryz.pinned (OpenSpec.upto seatJoinsSpec)

/-- 'gemotlaw13.SeatFails', WHERE WHAT IT READS IS OF BULK AT MOST 1048576: true; the input reads as it did. -/
def seatFailsUptoRow : OpenClaim := { program := "ytjhpjjbnojbikaagreat", sum := "86e0ac14fd60e4f71da00d1b8b966c752bbb29d79e944fe72c80b40678da8dea", func := "gemot/gemotlaw13.SeatFails", spec := "seatFails", unfollowed := true, recurses := true, plainKeys := false, apart := false, narrowed := true }
def SeatFailsUptoSaid : Prop := seatFailsUptoRow.holds Tryz.pinned (OpenSpec.upto seatFailsSpec)

end Rows
end Go.Proofs.YtjhpjjbnojbikaaGreat
