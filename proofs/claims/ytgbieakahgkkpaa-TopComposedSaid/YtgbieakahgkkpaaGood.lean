/- What a check of a program hands back, and the head of a round of it. -/
import Derived.Test.YtgbieakahgkkpaaPMem
import Derived.Test.YtgbieakahgkkpaaOk
namespace Go.Proofs.Ytgbieakahgkkpaa
open Go.RowKit

def GoodPost (p : List Ins) (most chars : Nat) (w : World) (e : Ending) (w' : World) : Prop := ∃ b, e = .returned (.bool b) ∧ (b = true ↔ goodP p most chars) ∧ Below w.heap.size w w'
theorem good_false {p : List Ins} {most chars : Nat} {w w' : World} (h : ¬ goodP p most chars) (hb : Below w.heap.size w w') : GoodPost p most chars w (.returned (.bool false)) w' :=
  ⟨false, rfl, ⟨fun h0 => by simp at h0, fun h' => absurd h' h⟩, hb⟩
def GoodRel (p : List Ins) (chars n : Nat) (w : World) (s i : Value) (wr : World) : Prop :=
  ∃ k : Nat, k ≤ n ∧ i = .int .i64 k ∧ s = .int .i64 (treeSum (p.take k) : Nat) ∧ treeSum (p.take k) ≤ chars ∧ (∀ (j : Nat) (x : Ins), j < k → p[j]? = some x → okIns x j n) ∧ Below w.heap.size w wr
theorem GoodRel.next {p : List Ins} {chars n k S : Nat} {w w' : World} {x : Ins} (hk : k < n) (hx : p[k]? = some x) (hS : S = treeSum (p.take k)) (hs : S + x.tree.size ≤ chars) (ha : ∀ (j : Nat) (x : Ins), j < k → p[j]? = some x → okIns x j n)
    (hok : okIns x k n) (hb : Below w.heap.size w w') : GoodRel p chars n w (.int .i64 ((S : Int) + x.tree.size)) (.int .i64 ((k : Int) + 1)) w' := by
  have e := treeSum_take_succ hx
  refine ⟨k + 1, by omega, by simp, by rw [e, hS]; simp, by omega, ?_, hb⟩
  intro j y hj hy
  by_cases hjk : j = k
  · subst hjk; rw [hx] at hy; cases hy; exact hok
  · exact ha j y (by omega) hy

end Go.Proofs.Ytgbieakahgkkpaa
