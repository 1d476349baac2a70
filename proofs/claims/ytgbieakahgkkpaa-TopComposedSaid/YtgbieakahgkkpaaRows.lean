/-
  No cell of these rows narrows 'for every input' (looked for: loops, veiled, ifaces, maps, wideKeys, modest, calm, conditions, laid).
  DERIVED. THE GIVEN ROWS OF THIS SEAT. 17 by the template 'for every input the law returns true; each argument reads behind the call as it read before'; 0 by the template 'total and deterministic' (their statements: YtgbieakahgkkpaaTotals.lean).
  GIVEN WITH THE SEED: the statements are not yours to turn. If you find one false, say at which input.
  Laid BY PROGRAM, IN A SANDBOX (cutbox-rows.mjs): the forced cells as the released guide's own fill.sh prints them over the translation 35f3bbe8c1ae7061… (all of the seat's roots in one cut). By AI agents, Wed Nov 11 2026. No macro, syntax, notation, axiom, sorry.
-/
import Derived.Test.YtgbieakahgkkpaaChecked
import GoSem.Claim
import GoSem.ClaimJoined
import GoSem.ClaimMapViews
import Derived.JoinedTies
import Derived.KernelRfl
namespace Go.Proofs.Ytgbieakahgkkpaa
/- THE CELL 'sum', in the pinned program and in every row, IS THE sha256 OF THE DUMP (.gsa) THAT YtgbieakahgkkpaaProg.lean LOADS. Nothing in Lean hashes anything: it is a label: what it is worth is what the hold of that sum in a sandbox is worth. -/
noncomputable def Try.pinned : Pinned := { name := "ytgbieakahgkkpaa", sum := "35f3bbe8c1ae70613db1ac2a2d78dc2e1844b20f29789f85f6ac22439c8c98e0", checked := Try.checked }
namespace Rows
def none {H : Type} : Left H := { results := [], args := [] }

/-- 'narcissustop.TopItself': WHATEVER THE INPUT: true; the input reads as it did. -/
def topItselfSpec : ChangeSpec := { name := "topItself", fn := fun _ => fun
  | [d1, d2] => { results := [.lit (.bool true)], args := [d1, d2] }
  | _ => none }
def topItselfRow : OpenClaim := { program := "ytgbieakahgkkpaa", sum := "35f3bbe8c1ae70613db1ac2a2d78dc2e1844b20f29789f85f6ac22439c8c98e0", func := "narcissus/narcissustop.TopItself", spec := "topItself", unfollowed := true, recurses := true, apart := false }
def TopItselfSaid : Prop := topItselfRow.holds Try.pinned (OpenSpec.ofChange topItselfSpec)

/-- ITS FALSE NEIGHBOUR: 'it returns false'. Refute it at one input. -/
def topItselfWrong : ChangeSpec := { name := "topItself", fn := fun _ => fun
  | [d1, d2] => { results := [.lit (.bool false)], args := [d1, d2] }
  | _ => none }
def TopItselfWrongFalsely : Prop := topItselfRow.holds Try.pinned (OpenSpec.ofChange topItselfWrong)

/-- 'narcissuslaw06.UnivForms': WHATEVER THE INPUT: true; the input reads as it did. -/
def univFormsSpec : ChangeSpec := { name := "univForms", fn := fun _ => fun
  | [d] => { results := [.lit (.bool true)], args := [d] }
  | _ => none }
def univFormsRow : OpenClaim := { program := "ytgbieakahgkkpaa", sum := "35f3bbe8c1ae70613db1ac2a2d78dc2e1844b20f29789f85f6ac22439c8c98e0", func := "narcissus/narcissuslaw06.UnivForms", spec := "univForms", unfollowed := true, recurses := true, apart := false }
def UnivFormsSaid : Prop := univFormsRow.holds Try.pinned (OpenSpec.ofChange univFormsSpec)

/-- ITS FALSE NEIGHBOUR: 'it returns false'. Refute it at one input. -/
def univFormsWrong : ChangeSpec := { name := "univForms", fn := fun _ => fun
  | [d] => { results := [.lit (.bool false)], args := [d] }
  | _ => none }
def UnivFormsWrongFalsely : Prop := univFormsRow.holds Try.pinned (OpenSpec.ofChange univFormsWrong)

/-- 'narcissustop.TopLooped': WHATEVER THE INPUT: true; the input reads as it did. -/
def topLoopedSpec : ChangeSpec := { name := "topLooped", fn := fun _ => fun
  | [d1, d2, d3] => { results := [.lit (.bool true)], args := [d1, d2, d3] }
  | _ => none }
def topLoopedRow : OpenClaim := { program := "ytgbieakahgkkpaa", sum := "35f3bbe8c1ae70613db1ac2a2d78dc2e1844b20f29789f85f6ac22439c8c98e0", func := "narcissus/narcissustop.TopLooped", spec := "topLooped", apart := false }
def TopLoopedSaid : Prop := topLoopedRow.holds Try.pinned (OpenSpec.ofChange topLoopedSpec)

/-- ITS FALSE NEIGHBOUR: 'it returns false'. Refute it at one input. -/
def topLoopedWrong : ChangeSpec := { name := "topLooped", fn := fun _ => fun
  | [d1, d2, d3] => { results := [.lit (.bool false)], args := [d1, d2, d3] }
  | _ => none }
def TopLoopedWrongFalsely : Prop := topLoopedRow.holds Try.pinned (OpenSpec.ofChange topLoopedWrong)

/-- 'narcissuslaw06.UnivRuns': WHATEVER THE INPUT: true; the input reads as it did. -/
def univRunsSpec : ChangeSpec := { name := "univRuns", fn := fun _ => fun
  | [d1, d2, d3] => { results := [.lit (.bool true)], args := [d1, d2, d3] }
  | _ => none }
def univRunsRow : OpenClaim := { program := "ytgbieakahgkkpaa", sum := "35f3bbe8c1ae70613db1ac2a2d78dc2e1844b20f29789f85f6ac22439c8c98e0", func := "narcissus/narcissuslaw06.UnivRuns", spec := "univRuns", unfollowed := true, recurses := true, apart := false }
def UnivRunsSaid : Prop := univRunsRow.holds Try.pinned (OpenSpec.ofChange univRunsSpec)

/-- ITS FALSE NEIGHBOUR: 'it returns false'. Refute it at one input. -/
def univRunsWrong : ChangeSpec := { name := "univRuns", fn := fun _ => fun
  | [d1, d2, d3] => { results := [.lit (.bool false)], args := [d1, d2, d3] }
  | _ => none }
def UnivRunsWrongFalsely : Prop := univRunsRow.holds Try.pinned (OpenSpec.ofChange univRunsWrong)

/-- 'narcissuslaw06.UnivNever': WHATEVER THE INPUT: true; the input reads as it did. -/
def univNeverSpec : ChangeSpec := { name := "univNever", fn := fun _ => fun
  | [d1, d2, d3] => { results := [.lit (.bool true)], args := [d1, d2, d3] }
  | _ => none }
def univNeverRow : OpenClaim := { program := "ytgbieakahgkkpaa", sum := "35f3bbe8c1ae70613db1ac2a2d78dc2e1844b20f29789f85f6ac22439c8c98e0", func := "narcissus/narcissuslaw06.UnivNever", spec := "univNever", unfollowed := true, recurses := true, apart := false }
def UnivNeverSaid : Prop := univNeverRow.holds Try.pinned (OpenSpec.ofChange univNeverSpec)

/-- ITS FALSE NEIGHBOUR: 'it returns false'. Refute it at one input. -/
def univNeverWrong : ChangeSpec := { name := "univNever", fn := fun _ => fun
  | [d1, d2, d3] => { results := [.lit (.bool false)], args := [d1, d2, d3] }
  | _ => none }
def UnivNeverWrongFalsely : Prop := univNeverRow.holds Try.pinned (OpenSpec.ofChange univNeverWrong)

/-- 'narcissuslaw06.UnivItself': WHATEVER THE INPUT: true; the input reads as it did. -/
def univItselfSpec : ChangeSpec := { name := "univItself", fn := fun _ => fun
  | [d1, d2, d3] => { results := [.lit (.bool true)], args := [d1, d2, d3] }
  | _ => none }
def univItselfRow : OpenClaim := { program := "ytgbieakahgkkpaa", sum := "35f3bbe8c1ae70613db1ac2a2d78dc2e1844b20f29789f85f6ac22439c8c98e0", func := "narcissus/narcissuslaw06.UnivItself", spec := "univItself", unfollowed := true, recurses := true, apart := false }
def UnivItselfSaid : Prop := univItselfRow.holds Try.pinned (OpenSpec.ofChange univItselfSpec)

/-- ITS FALSE NEIGHBOUR: 'it returns false'. Refute it at one input. -/
def univItselfWrong : ChangeSpec := { name := "univItself", fn := fun _ => fun
  | [d1, d2, d3] => { results := [.lit (.bool false)], args := [d1, d2, d3] }
  | _ => none }
def UnivItselfWrongFalsely : Prop := univItselfRow.holds Try.pinned (OpenSpec.ofChange univItselfWrong)

/-- 'narcissuslaw06.UnivHeads': WHATEVER THE INPUT: true; the input reads as it did. -/
def univHeadsSpec : ChangeSpec := { name := "univHeads", fn := fun _ => fun
  | [d1, d2] => { results := [.lit (.bool true)], args := [d1, d2] }
  | _ => none }
def univHeadsRow : OpenClaim := { program := "ytgbieakahgkkpaa", sum := "35f3bbe8c1ae70613db1ac2a2d78dc2e1844b20f29789f85f6ac22439c8c98e0", func := "narcissus/narcissuslaw06.UnivHeads", spec := "univHeads", unfollowed := true, recurses := true, apart := false }
def UnivHeadsSaid : Prop := univHeadsRow.holds Try.pinned (OpenSpec.ofChange univHeadsSpec)

/-- ITS FALSE NEIGHBOUR: 'it returns false'. Refute it at one input. -/
def univHeadsWrong : ChangeSpec := { name := "univHeads", fn := fun _ => fun
  | [d1, d2] => { results := [.lit (.bool false)], args := [d1, d2] }
  | _ => none }
def UnivHeadsWrongFalsely : Prop := univHeadsRow.holds Try.pinned (OpenSpec.ofChange univHeadsWrong)

/-- 'narcissuslaw07.KnowMakes': WHATEVER THE INPUT: true; the input reads as it did. -/
def knowMakesSpec : ChangeSpec := { name := "knowMakes", fn := fun _ => fun
  | [d] => { results := [.lit (.bool true)], args := [d] }
  | _ => none }
def knowMakesRow : OpenClaim := { program := "ytgbieakahgkkpaa", sum := "35f3bbe8c1ae70613db1ac2a2d78dc2e1844b20f29789f85f6ac22439c8c98e0", func := "narcissus/narcissuslaw07.KnowMakes", spec := "knowMakes", inPlace := ["internal/abi.NoEscape", "internal/bytealg.MakeNoZero"], unfollowed := true, recurses := true, apart := false }
def KnowMakesSaid : Prop := knowMakesRow.holds Try.pinned (OpenSpec.ofChange knowMakesSpec)

/-- ITS FALSE NEIGHBOUR: 'it returns false'. Refute it at one input. -/
def knowMakesWrong : ChangeSpec := { name := "knowMakes", fn := fun _ => fun
  | [d] => { results := [.lit (.bool false)], args := [d] }
  | _ => none }
def KnowMakesWrongFalsely : Prop := knowMakesRow.holds Try.pinned (OpenSpec.ofChange knowMakesWrong)

/-- 'narcissuslaw07.KnowRuns': WHATEVER THE INPUT: true; the input reads as it did. -/
def knowRunsSpec : ChangeSpec := { name := "knowRuns", fn := fun _ => fun
  | [d1, d2] => { results := [.lit (.bool true)], args := [d1, d2] }
  | _ => none }
def knowRunsRow : OpenClaim := { program := "ytgbieakahgkkpaa", sum := "35f3bbe8c1ae70613db1ac2a2d78dc2e1844b20f29789f85f6ac22439c8c98e0", func := "narcissus/narcissuslaw07.KnowRuns", spec := "knowRuns", inPlace := ["internal/abi.NoEscape", "internal/bytealg.MakeNoZero"], unfollowed := true, recurses := true, apart := false }
def KnowRunsSaid : Prop := knowRunsRow.holds Try.pinned (OpenSpec.ofChange knowRunsSpec)

/-- ITS FALSE NEIGHBOUR: 'it returns false'. Refute it at one input. -/
def knowRunsWrong : ChangeSpec := { name := "knowRuns", fn := fun _ => fun
  | [d1, d2] => { results := [.lit (.bool false)], args := [d1, d2] }
  | _ => none }
def KnowRunsWrongFalsely : Prop := knowRunsRow.holds Try.pinned (OpenSpec.ofChange knowRunsWrong)

/-- 'narcissuslaw07.KnowDifferent': WHATEVER THE INPUT: true; the input reads as it did. -/
def knowDifferentSpec : ChangeSpec := { name := "knowDifferent", fn := fun _ => fun
  | [d1, d2] => { results := [.lit (.bool true)], args := [d1, d2] }
  | _ => none }
def knowDifferentRow : OpenClaim := { program := "ytgbieakahgkkpaa", sum := "35f3bbe8c1ae70613db1ac2a2d78dc2e1844b20f29789f85f6ac22439c8c98e0", func := "narcissus/narcissuslaw07.KnowDifferent", spec := "knowDifferent", inPlace := ["internal/abi.NoEscape", "internal/bytealg.MakeNoZero"], unfollowed := true, recurses := true, apart := false }
def KnowDifferentSaid : Prop := knowDifferentRow.holds Try.pinned (OpenSpec.ofChange knowDifferentSpec)

/-- ITS FALSE NEIGHBOUR: 'it returns false'. Refute it at one input. -/
def knowDifferentWrong : ChangeSpec := { name := "knowDifferent", fn := fun _ => fun
  | [d1, d2] => { results := [.lit (.bool false)], args := [d1, d2] }
  | _ => none }
def KnowDifferentWrongFalsely : Prop := knowDifferentRow.holds Try.pinned (OpenSpec.ofChange knowDifferentWrong)

/-- 'narcissustop.TopComposed': WHATEVER THE INPUT: true; the input reads as it did. -/
def topComposedSpec : ChangeSpec := { name := "topComposed", fn := fun _ => fun
  | [d1, d2, d3] => { results := [.lit (.bool true)], args := [d1, d2, d3] }
  | _ => none }
def topComposedRow : OpenClaim := { program := "ytgbieakahgkkpaa", sum := "35f3bbe8c1ae70613db1ac2a2d78dc2e1844b20f29789f85f6ac22439c8c98e0", func := "narcissus/narcissustop.TopComposed", spec := "topComposed", apart := false }
def TopComposedSaid : Prop := topComposedRow.holds Try.pinned (OpenSpec.ofChange topComposedSpec)

/-- ITS FALSE NEIGHBOUR: 'it returns false'. Refute it at one input. -/
def topComposedWrong : ChangeSpec := { name := "topComposed", fn := fun _ => fun
  | [d1, d2, d3] => { results := [.lit (.bool false)], args := [d1, d2, d3] }
  | _ => none }
def TopComposedWrongFalsely : Prop := topComposedRow.holds Try.pinned (OpenSpec.ofChange topComposedWrong)

/-- 'narcissuslaw07.KnowSelf': WHATEVER THE INPUT: true; the input reads as it did. -/
def knowSelfSpec : ChangeSpec := { name := "knowSelf", fn := fun _ => fun
  | [] => { results := [.lit (.bool true)], args := [] }
  | _ => none }
def knowSelfRow : OpenClaim := { program := "ytgbieakahgkkpaa", sum := "35f3bbe8c1ae70613db1ac2a2d78dc2e1844b20f29789f85f6ac22439c8c98e0", func := "narcissus/narcissuslaw07.KnowSelf", spec := "knowSelf", inPlace := ["internal/abi.NoEscape", "internal/bytealg.MakeNoZero"], unfollowed := true, recurses := true, apart := false }
def KnowSelfSaid : Prop := knowSelfRow.holds Try.pinned (OpenSpec.ofChange knowSelfSpec)

/-- ITS FALSE NEIGHBOUR: 'it returns false'. Refute it at one input. -/
def knowSelfWrong : ChangeSpec := { name := "knowSelf", fn := fun _ => fun
  | [] => { results := [.lit (.bool false)], args := [] }
  | _ => none }
def KnowSelfWrongFalsely : Prop := knowSelfRow.holds Try.pinned (OpenSpec.ofChange knowSelfWrong)

/-- 'narcissuslaw07.KnowItself': WHATEVER THE INPUT: true; the input reads as it did. -/
def knowItselfSpec : ChangeSpec := { name := "knowItself", fn := fun _ => fun
  | [d] => { results := [.lit (.bool true)], args := [d] }
  | _ => none }
def knowItselfRow : OpenClaim := { program := "ytgbieakahgkkpaa", sum := "35f3bbe8c1ae70613db1ac2a2d78dc2e1844b20f29789f85f6ac22439c8c98e0", func := "narcissus/narcissuslaw07.KnowItself", spec := "knowItself", inPlace := ["internal/abi.NoEscape", "internal/bytealg.MakeNoZero"], unfollowed := true, recurses := true, apart := false }
def KnowItselfSaid : Prop := knowItselfRow.holds Try.pinned (OpenSpec.ofChange knowItselfSpec)

/-- ITS FALSE NEIGHBOUR: 'it returns false'. Refute it at one input. -/
def knowItselfWrong : ChangeSpec := { name := "knowItself", fn := fun _ => fun
  | [d] => { results := [.lit (.bool false)], args := [d] }
  | _ => none }
def KnowItselfWrongFalsely : Prop := knowItselfRow.holds Try.pinned (OpenSpec.ofChange knowItselfWrong)

/-- 'narcissuslaw09.DefeatMakes': WHATEVER THE INPUT: true; the input reads as it did. -/
def defeatMakesSpec : ChangeSpec := { name := "defeatMakes", fn := fun _ => fun
  | [d1, d2, d3] => { results := [.lit (.bool true)], args := [d1, d2, d3] }
  | _ => none }
def defeatMakesRow : OpenClaim := { program := "ytgbieakahgkkpaa", sum := "35f3bbe8c1ae70613db1ac2a2d78dc2e1844b20f29789f85f6ac22439c8c98e0", func := "narcissus/narcissuslaw09.DefeatMakes", spec := "defeatMakes", inPlace := ["internal/abi.NoEscape", "internal/bytealg.MakeNoZero"], unfollowed := true, recurses := true, apart := false }
def DefeatMakesSaid : Prop := defeatMakesRow.holds Try.pinned (OpenSpec.ofChange defeatMakesSpec)

/-- ITS FALSE NEIGHBOUR: 'it returns false'. Refute it at one input. -/
def defeatMakesWrong : ChangeSpec := { name := "defeatMakes", fn := fun _ => fun
  | [d1, d2, d3] => { results := [.lit (.bool false)], args := [d1, d2, d3] }
  | _ => none }
def DefeatMakesWrongFalsely : Prop := defeatMakesRow.holds Try.pinned (OpenSpec.ofChange defeatMakesWrong)

/-- 'narcissuslaw09.DefeatLiars': WHATEVER THE INPUT: true; the input reads as it did. -/
def defeatLiarsSpec : ChangeSpec := { name := "defeatLiars", fn := fun _ => fun
  | [d] => { results := [.lit (.bool true)], args := [d] }
  | _ => none }
def defeatLiarsRow : OpenClaim := { program := "ytgbieakahgkkpaa", sum := "35f3bbe8c1ae70613db1ac2a2d78dc2e1844b20f29789f85f6ac22439c8c98e0", func := "narcissus/narcissuslaw09.DefeatLiars", spec := "defeatLiars", inPlace := ["internal/abi.NoEscape", "internal/bytealg.MakeNoZero"], unfollowed := true, recurses := true, apart := false }
def DefeatLiarsSaid : Prop := defeatLiarsRow.holds Try.pinned (OpenSpec.ofChange defeatLiarsSpec)

/-- ITS FALSE NEIGHBOUR: 'it returns false'. Refute it at one input. -/
def defeatLiarsWrong : ChangeSpec := { name := "defeatLiars", fn := fun _ => fun
  | [d] => { results := [.lit (.bool false)], args := [d] }
  | _ => none }
def DefeatLiarsWrongFalsely : Prop := defeatLiarsRow.holds Try.pinned (OpenSpec.ofChange defeatLiarsWrong)

/-- 'narcissuslaw09.DefeatRuns': WHATEVER THE INPUT: true; the input reads as it did. -/
def defeatRunsSpec : ChangeSpec := { name := "defeatRuns", fn := fun _ => fun
  | [d1, d2, d3, d4] => { results := [.lit (.bool true)], args := [d1, d2, d3, d4] }
  | _ => none }
def defeatRunsRow : OpenClaim := { program := "ytgbieakahgkkpaa", sum := "35f3bbe8c1ae70613db1ac2a2d78dc2e1844b20f29789f85f6ac22439c8c98e0", func := "narcissus/narcissuslaw09.DefeatRuns", spec := "defeatRuns", inPlace := ["internal/abi.NoEscape", "internal/bytealg.MakeNoZero"], unfollowed := true, recurses := true, apart := false }
def DefeatRunsSaid : Prop := defeatRunsRow.holds Try.pinned (OpenSpec.ofChange defeatRunsSpec)

/-- ITS FALSE NEIGHBOUR: 'it returns false'. Refute it at one input. -/
def defeatRunsWrong : ChangeSpec := { name := "defeatRuns", fn := fun _ => fun
  | [d1, d2, d3, d4] => { results := [.lit (.bool false)], args := [d1, d2, d3, d4] }
  | _ => none }
def DefeatRunsWrongFalsely : Prop := defeatRunsRow.holds Try.pinned (OpenSpec.ofChange defeatRunsWrong)

/-- 'narcissuslaw09.DefeatLies': WHATEVER THE INPUT: true; the input reads as it did. -/
def defeatLiesSpec : ChangeSpec := { name := "defeatLies", fn := fun _ => fun
  | [d1, d2] => { results := [.lit (.bool true)], args := [d1, d2] }
  | _ => none }
def defeatLiesRow : OpenClaim := { program := "ytgbieakahgkkpaa", sum := "35f3bbe8c1ae70613db1ac2a2d78dc2e1844b20f29789f85f6ac22439c8c98e0", func := "narcissus/narcissuslaw09.DefeatLies", spec := "defeatLies", inPlace := ["internal/abi.NoEscape", "internal/bytealg.MakeNoZero"], unfollowed := true, recurses := true, apart := false }
def DefeatLiesSaid : Prop := defeatLiesRow.holds Try.pinned (OpenSpec.ofChange defeatLiesSpec)

/-- ITS FALSE NEIGHBOUR: 'it returns false'. Refute it at one input. -/
def defeatLiesWrong : ChangeSpec := { name := "defeatLies", fn := fun _ => fun
  | [d1, d2] => { results := [.lit (.bool false)], args := [d1, d2] }
  | _ => none }
def DefeatLiesWrongFalsely : Prop := defeatLiesRow.holds Try.pinned (OpenSpec.ofChange defeatLiesWrong)

/- THE SECOND FORM. 'bulk': how many values and letters a reading holds, each counted each time it is reached (what is shared counts as often as it is met; a slice's spare places count too). A statement '..UptoSaid' is the law's where the arguments, and the package variables that the reading takes, are together of bulk at most 1048576: NARROWER than '..Said'. Prove '..Said' where nothing that the law and all that it calls make is longer than what came in: it says more and counts as full. Else prove '..UptoSaid'. A law counts once. -/
mutual
def uptoBulk {H : Type} : DataW H → Nat
  | .lit (.string bytes) => bytes.length + 1
  | .lit _ => 1
  | .nil => 1
  | .ptr d => uptoBulk d + 1
  | .slice elems spare => uptoBulkAll elems + uptoBulkAll spare + 1
  | .agg parts => uptoBulkAll parts + 1
  | .iface _ d => uptoBulk d + 1
  | .map entries => uptoBulkEntries entries + 1
  | .held _ => 1
def uptoBulkAll {H : Type} : List (DataW H) → Nat
  | [] => 0
  | d :: r => uptoBulk d + uptoBulkAll r
def uptoBulkEntries {H : Type} : List (Lit × DataW H) → Nat
  | [] => 0
  | x :: r => uptoBulkEntry x + uptoBulkEntries r
def uptoBulkEntry {H : Type} : Lit × DataW H → Nat
  | (.string bytes, d) => bytes.length + uptoBulk d + 1
  | (_, d) => uptoBulk d + 1
 end
def uptoSmall : (H : Type) → List (DataW H) → Bool := fun _ ds => decide (uptoBulkAll ds ≤ 1048576)
def OpenSpec.upto (s : _root_.Go.ChangeSpec) : _root_.Go.OpenSpec := { _root_.Go.OpenSpec.ofChange s with cond := some uptoSmall }

/-- 'narcissustop.TopItself', WHERE WHAT IT READS IS OF BULK AT MOST 1048576: true; the input reads as it did. -/
def topItselfUptoRow : OpenClaim := { program := "ytgbieakahgkkpaa", sum := "35f3bbe8c1ae70613db1ac2a2d78dc2e1844b20f29789f85f6ac22439c8c98e0", func := "narcissus/narcissustop.TopItself", spec := "topItself", unfollowed := true, recurses := true, apart := false, narrowed := true }
def TopItselfUptoSaid : Prop := topItselfUptoRow.holds Try.pinned (OpenSpec.upto topItselfSpec)

/-- 'narcissuslaw06.UnivForms', WHERE WHAT IT READS IS OF BULK AT MOST 1048576: true; the input reads as it did. -/
def univFormsUptoRow : OpenClaim := { program := "ytgbieakahgkkpaa", sum := "35f3bbe8c1ae70613db1ac2a2d78dc2e1844b20f29789f85f6ac22439c8c98e0", func := "narcissus/narcissuslaw06.UnivForms", spec := "univForms", unfollowed := true, recurses := true, apart := false, narrowed := true }
def UnivFormsUptoSaid : Prop := univFormsUptoRow.holds Try.pinned (OpenSpec.upto univFormsSpec)

/-- 'narcissustop.TopLooped', WHERE WHAT IT READS IS OF BULK AT MOST 1048576: true; the input reads as it did. -/
def topLoopedUptoRow : OpenClaim := { program := "ytgbieakahgkkpaa", sum := "35f3bbe8c1ae70613db1ac2a2d78dc2e1844b20f29789f85f6ac22439c8c98e0", func := "narcissus/narcissustop.TopLooped", spec := "topLooped", apart := false, narrowed := true }
def TopLoopedUptoSaid : Prop := topLoopedUptoRow.holds Try.pinned (OpenSpec.upto topLoopedSpec)

/-- 'narcissuslaw06.UnivRuns', WHERE WHAT IT READS IS OF BULK AT MOST 1048576: true; the input reads as it did. -/
def univRunsUptoRow : OpenClaim := { program := "ytgbieakahgkkpaa", sum := "35f3bbe8c1ae70613db1ac2a2d78dc2e1844b20f29789f85f6ac22439c8c98e0", func := "narcissus/narcissuslaw06.UnivRuns", spec := "univRuns", unfollowed := true, recurses := true, apart := false, narrowed := true }
def UnivRunsUptoSaid : Prop := univRunsUptoRow.holds Try.pinned (OpenSpec.upto univRunsSpec)

/-- 'narcissuslaw06.UnivNever', WHERE WHAT IT READS IS OF BULK AT MOST 1048576: true; the input reads as it did. -/
def univNeverUptoRow : OpenClaim := { program := "ytgbieakahgkkpaa", sum := "35f3bbe8c1ae70613db1ac2a2d78dc2e1844b20f29789f85f6ac22439c8c98e0", func := "narcissus/narcissuslaw06.UnivNever", spec := "univNever", unfollowed := true, recurses := true, apart := false, narrowed := true }
def UnivNeverUptoSaid : Prop := univNeverUptoRow.holds Try.pinned (OpenSpec.upto univNeverSpec)

/-- 'narcissuslaw06.UnivItself', WHERE WHAT IT READS IS OF BULK AT MOST 1048576: true; the input reads as it did. -/
def univItselfUptoRow : OpenClaim := { program := "ytgbieakahgkkpaa", sum := "35f3bbe8c1ae70613db1ac2a2d78dc2e1844b20f29789f85f6ac22439c8c98e0", func := "narcissus/narcissuslaw06.UnivItself", spec := "univItself", unfollowed := true, recurses := true, apart := false, narrowed := true }
def UnivItselfUptoSaid : Prop := univItselfUptoRow.holds Try.pinned (OpenSpec.upto univItselfSpec)

/-- 'narcissuslaw06.UnivHeads', WHERE WHAT IT READS IS OF BULK AT MOST 1048576: true; the input reads as it did. -/
def univHeadsUptoRow : OpenClaim := { program := "ytgbieakahgkkpaa", sum := "35f3bbe8c1ae70613db1ac2a2d78dc2e1844b20f29789f85f6ac22439c8c98e0", func := "narcissus/narcissuslaw06.UnivHeads", spec := "univHeads", unfollowed := true, recurses := true, apart := false, narrowed := true }
def UnivHeadsUptoSaid : Prop := univHeadsUptoRow.holds Try.pinned (OpenSpec.upto univHeadsSpec)

/-- 'narcissuslaw07.KnowMakes', WHERE WHAT IT READS IS OF BULK AT MOST 1048576: true; the input reads as it did. -/
def knowMakesUptoRow : OpenClaim := { program := "ytgbieakahgkkpaa", sum := "35f3bbe8c1ae70613db1ac2a2d78dc2e1844b20f29789f85f6ac22439c8c98e0", func := "narcissus/narcissuslaw07.KnowMakes", spec := "knowMakes", inPlace := ["internal/abi.NoEscape", "internal/bytealg.MakeNoZero"], unfollowed := true, recurses := true, apart := false, narrowed := true }
def KnowMakesUptoSaid : Prop := knowMakesUptoRow.holds Try.pinned (OpenSpec.upto knowMakesSpec)

/-- 'narcissuslaw07.KnowRuns', WHERE WHAT IT READS IS OF BULK AT MOST 1048576: true; the input reads as it did. -/
def knowRunsUptoRow : OpenClaim := { program := "ytgbieakahgkkpaa", sum := "35f3bbe8c1ae70613db1ac2a2d78dc2e1844b20f29789f85f6ac22439c8c98e0", func := "narcissus/narcissuslaw07.KnowRuns", spec := "knowRuns", inPlace := ["internal/abi.NoEscape", "internal/bytealg.MakeNoZero"], unfollowed := true, recurses := true, apart := false, narrowed := true }
def KnowRunsUptoSaid : Prop := knowRunsUptoRow.holds Try.pinned (OpenSpec.upto knowRunsSpec)

/-- 'narcissuslaw07.KnowDifferent', WHERE WHAT IT READS IS OF BULK AT MOST 1048576: true; the input reads as it did. -/
def knowDifferentUptoRow : OpenClaim := { program := "ytgbieakahgkkpaa", sum := "35f3bbe8c1ae70613db1ac2a2d78dc2e1844b20f29789f85f6ac22439c8c98e0", func := "narcissus/narcissuslaw07.KnowDifferent", spec := "knowDifferent", inPlace := ["internal/abi.NoEscape", "internal/bytealg.MakeNoZero"], unfollowed := true, recurses := true, apart := false, narrowed := true }
def KnowDifferentUptoSaid : Prop := knowDifferentUptoRow.holds Try.pinned (OpenSpec.upto knowDifferentSpec)

/-- 'narcissustop.TopComposed', WHERE WHAT IT READS IS OF BULK AT MOST 1048576: true; the input reads as it did. -/
def topComposedUptoRow : OpenClaim := { program := "ytgbieakahgkkpaa", sum := "35f3bbe8c1ae70613db1ac2a2d78dc2e1844b20f29789f85f6ac22439c8c98e0", func := "narcissus/narcissustop.TopComposed", spec := "topComposed", apart := false, narrowed := true }
def TopComposedUptoSaid : Prop := topComposedUptoRow.holds Try.pinned (OpenSpec.upto topComposedSpec)

/-- 'narcissuslaw07.KnowSelf', WHERE WHAT IT READS IS OF BULK AT MOST 1048576: true; the input reads as it did. -/
def knowSelfUptoRow : OpenClaim := { program := "ytgbieakahgkkpaa", sum := "35f3bbe8c1ae70613db1ac2a2d78dc2e1844b20f29789f85f6ac22439c8c98e0", func := "narcissus/narcissuslaw07.KnowSelf", spec := "knowSelf", inPlace := ["internal/abi.NoEscape", "internal/bytealg.MakeNoZero"], unfollowed := true, recurses := true, apart := false, narrowed := true }
def KnowSelfUptoSaid : Prop := knowSelfUptoRow.holds Try.pinned (OpenSpec.upto knowSelfSpec)

/-- 'narcissuslaw07.KnowItself', WHERE WHAT IT READS IS OF BULK AT MOST 1048576: true; the input reads as it did. -/
def knowItselfUptoRow : OpenClaim := { program := "ytgbieakahgkkpaa", sum := "35f3bbe8c1ae70613db1ac2a2d78dc2e1844b20f29789f85f6ac22439c8c98e0", func := "narcissus/narcissuslaw07.KnowItself", spec := "knowItself", inPlace := ["internal/abi.NoEscape", "internal/bytealg.MakeNoZero"], unfollowed := true, recurses := true, apart := false, narrowed := true }
def KnowItselfUptoSaid : Prop := knowItselfUptoRow.holds Try.pinned (OpenSpec.upto knowItselfSpec)

/-- 'narcissuslaw09.DefeatMakes', WHERE WHAT IT READS IS OF BULK AT MOST 1048576: true; the input reads as it did. -/
def defeatMakesUptoRow : OpenClaim := { program := "ytgbieakahgkkpaa", sum := "35f3bbe8c1ae70613db1ac2a2d78dc2e1844b20f29789f85f6ac22439c8c98e0", func := "narcissus/narcissuslaw09.DefeatMakes", spec := "defeatMakes", inPlace := ["internal/abi.NoEscape", "internal/bytealg.MakeNoZero"], unfollowed := true, recurses := true, apart := false, narrowed := true }
def DefeatMakesUptoSaid : Prop := defeatMakesUptoRow.holds Try.pinned (OpenSpec.upto defeatMakesSpec)

/-- 'narcissuslaw09.DefeatLiars', WHERE WHAT IT READS IS OF BULK AT MOST 1048576: true; the input reads as it did. -/
def defeatLiarsUptoRow : OpenClaim := { program := "ytgbieakahgkkpaa", sum := "35f3bbe8c1ae70613db1ac2a2d78dc2e1844b20f29789f85f6ac22439c8c98e0", func := "narcissus/narcissuslaw09.DefeatLiars", spec := "defeatLiars", inPlace := ["internal/abi.NoEscape", "internal/bytealg.MakeNoZero"], unfollowed := true, recurses := true, apart := false, narrowed := true }
def DefeatLiarsUptoSaid : Prop := defeatLiarsUptoRow.holds Try.pinned (OpenSpec.upto defeatLiarsSpec)

/-- 'narcissuslaw09.DefeatRuns', WHERE WHAT IT READS IS OF BULK AT MOST 1048576: true; the input reads as it did. -/
def defeatRunsUptoRow : OpenClaim := { program := "ytgbieakahgkkpaa", sum := "35f3bbe8c1ae70613db1ac2a2d78dc2e1844b20f29789f85f6ac22439c8c98e0", func := "narcissus/narcissuslaw09.DefeatRuns", spec := "defeatRuns", inPlace := ["internal/abi.NoEscape", "internal/bytealg.MakeNoZero"], unfollowed := true, recurses := true, apart := false, narrowed := true }
def DefeatRunsUptoSaid : Prop := defeatRunsUptoRow.holds Try.pinned (OpenSpec.upto defeatRunsSpec)

/-- 'narcissuslaw09.DefeatLies', WHERE WHAT IT READS IS OF BULK AT MOST 1048576: true; the input reads as it did. -/
def defeatLiesUptoRow : OpenClaim := { program := "ytgbieakahgkkpaa", sum := "35f3bbe8c1ae70613db1ac2a2d78dc2e1844b20f29789f85f6ac22439c8c98e0", func := "narcissus/narcissuslaw09.DefeatLies", spec := "defeatLies", inPlace := ["internal/abi.NoEscape", "internal/bytealg.MakeNoZero"], unfollowed := true, recurses := true, apart := false, narrowed := true }
def DefeatLiesUptoSaid : Prop := defeatLiesUptoRow.holds Try.pinned (OpenSpec.upto defeatLiesSpec)

end Rows
end Go.Proofs.Ytgbieakahgkkpaa
