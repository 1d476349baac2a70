/- Programs in memory: a slice of instructions of five cells each. No law of the program is stated here. -/
import Derived.Test.YtgbieakahgkkpaaMem
import Derived.Test.YtgbieakahgkkpaaIns
namespace Go.Proofs.Ytgbieakahgkkpaa
open Go.RowKit

def Ins.cells (x : Ins) : List Value := [.int .i64 x.op, .int .i64 x.a, .int .i64 x.b, .int .i64 x.c, .string x.tree]
def progCells (p : List Ins) : List Value := p.flatMap Ins.cells

theorem progCells_length (p : List Ins) : (progCells p).length = p.length * 5 := by
  induction p with
  | nil => rfl
  | cons x p ih => simp [progCells, Ins.cells] at ih ⊢; omega
theorem progCells_append (p q : List Ins) : progCells (p ++ q) = progCells p ++ progCells q := by simp [progCells]
theorem progCells_one (p : List Ins) : ∀ u ∈ progCells p, u.oneCell' = true := by
  intro u hu
  simp only [progCells, List.mem_flatMap] at hu
  obtain ⟨x, _, hx⟩ := hu
  simp [Ins.cells] at hx
  rcases hx with rfl | rfl | rfl | rfl | rfl <;> rfl
theorem progCells_get (p : List Ins) : ∀ (i f : Nat) (x : Ins) (u : Value), p[i]? = some x → x.cells[f]? = some u → (progCells p)[i * 5 + f]? = some u := by
  induction p with
  | nil => intro i f x u h; simp at h
  | cons y p ih =>
    intro i f x u h hu
    have hf : f < 5 := by
      rcases Nat.lt_or_ge f 5 with h' | h'
      · exact h'
      · rw [List.getElem?_eq_none (by simpa [Ins.cells] using h')] at hu; cases hu
    match i, h with
    | 0, h =>
      simp at h; subst h
      simp only [progCells, List.flatMap_cons, Nat.zero_mul, Nat.zero_add]
      rw [List.getElem?_append_left (by simpa [Ins.cells] using hf)]
      exact hu
    | i + 1, h =>
      have h' := ih i f x u (by simpa using h) hu
      simp only [progCells, List.flatMap_cons] at h' ⊢
      rw [List.getElem?_append_right (by simp [Ins.cells]; omega)]
      rw [← h']
      congr 1
      simp [Ins.cells]; omega

/-- A program in memory, below block B. -/
def PMem (w : World) (B : Nat) (A : Option Addr) (n : Nat) (p : List Ins) : Prop := n = p.length ∧ Reads w B 5 A n (progCells p)

section
variable {w w' : World} {B B' n : Nat} {A : Option Addr} {p : List Ins}
theorem PMem.none_ : PMem w B A 0 [] := ⟨rfl, Reads.none_⟩
theorem PMem.more (h : PMem w B A n p) (hB : B ≤ B') : PMem w B' A n p := ⟨h.1, h.2.more hB⟩
theorem PMem.below (h : PMem w B A n p) (hb : Below B w w') : PMem w' B A n p := ⟨h.1, h.2.below hb⟩
theorem PMem.drew (h : PMem w B A n p) : PMem w.drew B A n p := h
theorem PMem.drewN (h : PMem w B A n p) (k : Nat) : PMem (w.drewN k) B A n p := h
theorem PMem.alloc (h : PMem w B A n p) (hB : B ≤ w.heap.size) (o : Obj) : PMem (w.alloc o) B A n p := ⟨h.1, h.2.alloc hB o⟩
theorem PMem.setCell (h : PMem w B A n p) {q : Addr} (hB : B ≤ q.block) (u : Value) : PMem (w.setCell q u) B A n p := ⟨h.1, h.2.setCell hB u⟩
theorem PMem.grown (h : PMem w B A n p) {row : Option Nat} (hg : w.grownBy w' row) (hB : B ≤ w.heap.size) (hr : ∀ g, row = some g → B ≤ g) : PMem w' B A n p := ⟨h.1, h.2.grown hg hB hr⟩
theorem PMem.keep (h : PMem w B A n p) (hk : ∀ q : Addr, q.block < B → w'.cell? q = w.cell? q) : PMem w' B A n p := ⟨h.1, h.2.keep hk⟩
/-- A row of the call's own, as a program. -/
theorem PMem.of_own {base : Nat} {e : TypeId} {c : Nat} (hn : n = p.length) (h : w.ownsRow base e 5 (.slice A n c) n (progCells p)) : PMem w w.heap.size A n p := ⟨hn, Reads.of_own h⟩

theorem PMem.at_ (h : PMem w B A n p) (i : Nat) (hi : i < n) :
    ∃ b off x, A = some ⟨b, off, none⟩ ∧ b < B ∧ p[i]? = some x ∧ w.cell? ⟨b, off + i * 5, none⟩ = some (.int .i64 x.op) ∧ w.cell? ⟨b, off + i * 5 + 1, none⟩ = some (.int .i64 x.a) ∧ w.cell? ⟨b, off + i * 5 + 2, none⟩ = some (.int .i64 x.b) ∧
      w.cell? ⟨b, off + i * 5 + 3, none⟩ = some (.int .i64 x.c) ∧ w.cell? ⟨b, off + i * 5 + 4, none⟩ = some (.string x.tree) := by
  obtain ⟨hn, h⟩ := h
  obtain ⟨ad, rfl, hb, hc⟩ := h.2 (by omega)
  have hx : p[i]? = some p[i] := List.getElem?_eq_getElem (by omega)
  have key : ∀ f u, p[i].cells[f]? = some u → w.cell? (ad.add (i * 5 + f)) = some u := fun f u hu => hc _ _ (progCells_get p i f _ u hx hu)
  obtain ⟨b, off, spot⟩ := ad
  have hspot : spot = none := by
    match spot with
    | none => rfl
    | some q =>
      have h0 : p[0]? = some p[0] := List.getElem?_eq_getElem (by omega)
      have := hc 0 _ (progCells_get p 0 0 _ _ h0 rfl)
      simp [Addr.add, World.cell?] at this
      split at this <;> simp at this
  subst hspot
  have ea : ∀ j, (⟨b, off, none⟩ : Addr).add j = ⟨b, off + j, none⟩ := fun j => by unfold Addr.add; split <;> simp_all
  refine ⟨b, off, p[i], rfl, hb, hx, ?_, ?_, ?_, ?_, ?_⟩
  · have := key 0 _ rfl; rwa [ea] at this
  · have := key 1 _ rfl; rwa [ea, ← Nat.add_assoc] at this
  · have := key 2 _ rfl; rwa [ea, ← Nat.add_assoc] at this
  · have := key 3 _ rfl; rwa [ea, ← Nat.add_assoc] at this
  · have := key 4 _ rfl; rwa [ea, ← Nat.add_assoc] at this
/-- A program that was cut to its first instructions. -/
theorem PMem.take (h : PMem w B A n p) {m : Nat} (hm : m ≤ n) : PMem w B A m (p.take m) := by
  obtain ⟨hn, hl, hc⟩ := h
  refine ⟨by rw [List.length_take]; omega, by rw [progCells_length, List.length_take]; omega, fun h0 => ?_⟩
  obtain ⟨ad, rfl, hb, hc⟩ := hc (by omega)
  refine ⟨ad, rfl, hb, fun j u hj => hc j u ?_⟩
  have : progCells p = progCells (p.take m) ++ progCells (p.drop m) := by rw [← progCells_append, List.take_append_drop]
  rw [this, List.getElem?_append_left (by
    rcases Nat.lt_or_ge j (progCells (p.take m)).length with h | h
    · exact h
    · rw [List.getElem?_eq_none h] at hj; cases hj)]
  exact hj
end

/-- Every number of an instruction is one of Go's ints. -/
def I64 (n : Int) : Prop := -9223372036854775808 ≤ n ∧ n ≤ 9223372036854775807
def Ins.I64 (x : Ins) : Prop := Ytgbieakahgkkpaa.I64 x.op ∧ Ytgbieakahgkkpaa.I64 x.a ∧ Ytgbieakahgkkpaa.I64 x.b ∧ Ytgbieakahgkkpaa.I64 x.c ∧ x.tree.size ≤ 140737488351232

end Go.Proofs.Ytgbieakahgkkpaa
