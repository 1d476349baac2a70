/- Small plain facts on the rule of an instruction. -/
import Derived.Test.YtgbieakahgkkpaaIns
import Derived.Laws.Strings
open Go
namespace Go.Proofs.Ytgbieakahgkkpaa
theorem treeSum_take_le (p : List Ins) (k : Nat) : treeSum (p.take k) ≤ treeSum p := by
  have : treeSum p = treeSum (p.take k) + treeSum (p.drop k) := by
    simp only [treeSum]
    rw [← List.sum_append, ← List.map_append, List.take_append_drop]
  omega
theorem treeSum_take_succ {p : List Ins} {k : Nat} {x : Ins} (hx : p[k]? = some x) : treeSum (p.take (k + 1)) = treeSum (p.take k) + x.tree.size := by
  rw [List.take_add_one, hx]; simp [treeSum]
theorem good_not {p : List Ins} {k most chars : Nat} {x : Ins} (hx : p[k]? = some x) (h : ¬ (treeSum (p.take k) + x.tree.size ≤ chars ∧ okIns x k p.length)) : ¬ goodP p most chars := by
  rintro ⟨_, h2, h3⟩
  refine h ⟨?_, h3 k x hx⟩
  rw [← treeSum_take_succ hx]
  exact Nat.le_trans (treeSum_take_le p _) h2
theorem ok_mk0 {a i n : Int} {tr : ByteArray} (ha : 0 ≤ a ∧ a < 32) (hp : (parse tr.data.toList).isSome = true) : okIns ⟨0, a, 0, 0, tr⟩ i n := ⟨ha, .inl rfl, .inr rfl, .inl ⟨rfl, hp, rfl⟩⟩
theorem ok_mk2 {a b c i n : Int} {tr : ByteArray} (ha : 0 ≤ a ∧ a < 32) (hb : 0 ≤ b ∧ b < 32) (hc : 0 ≤ c ∧ c < 32) (hz : tr.size = 0) : okIns ⟨2, a, b, c, tr⟩ i n := ⟨ha, .inr hz, .inl rfl, .inr (.inr (.inl ⟨rfl, hb, hc⟩))⟩
theorem ok_mk134 {op a b i n : Int} {tr : ByteArray} (ha : 0 ≤ a ∧ a < 32) (hb : 0 ≤ b ∧ b < 32) (ho : op = 1 ∨ op = 3 ∨ op = 4) (hz : tr.size = 0) : okIns ⟨op, a, b, 0, tr⟩ i n := ⟨ha, .inr hz, .inr rfl, .inr (.inl ⟨ho, hb⟩)⟩
theorem ok_mk5 {a b i n : Int} {tr : ByteArray} (ha : 0 ≤ a ∧ a < 32) (h1 : -i ≤ b) (h2 : b ≤ n - i) (hz : tr.size = 0) : okIns ⟨5, a, b, 0, tr⟩ i n := ⟨ha, .inr hz, .inr rfl, .inr (.inr (.inr ⟨rfl, h1, h2⟩))⟩
theorem empty_of_list {s : ByteArray} (h : s.toList = []) : s.size = 0 := by
  rw [ByteArray.toList_eq] at h
  show s.data.size = 0
  rw [← Array.length_toList, h]; rfl
end Go.Proofs.Ytgbieakahgkkpaa
