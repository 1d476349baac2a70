/- The universal program as a list of instructions, and what it does: it runs whatever program lies in its input as a code. Plain Lean; no program in sight. -/
import Derived.Test.YtgbieakahgkkpaaPlay
namespace Go.Proofs.Ytgbieakahgkkpaa

def uProg : List I := [.head 1 0, .tail 8 0, .move 2 1, .cons 4 8 4, .set 14 (.pair .nil .nil), .jump 2 3, .head 0 4, .jump 14 122, .head 13 2, .head 5 13, .tail 6 13, .head 7 6, .tail 6 6, .jump 5 3, .move 8 6, .jump 14 70, .tail 5 5, .jump 5 10, .move 10 6, .move 11 4, .jump 10 2, .jump 14 4, .tail 11 11, .tail 10 10, .jump 14 (-4), .head 8 11, .jump 14 59, .tail 5 5, .jump 5 19, .head 10 6, .move 11 4, .jump 10 2, .jump 14 4, .tail 11 11, .tail 10 10, .jump 14 (-4), .head 9 11, .tail 10 6, .move 11 4, .jump 10 2, .jump 14 4, .tail 11 11, .tail 10 10, .jump 14 (-4), .head 8 11, .cons 8 9 8, .jump 14 39, .tail 5 5, .jump 5 11, .move 10 6, .move 11 4, .jump 10 2, .jump 14 4, .tail 11 11, .tail 10 10, .jump 14 (-4), .head 8 11, .head 8 8, .jump 14 27, .tail 5 5, .jump 5 11, .move 10 6, .move 11 4, .jump 10 2, .jump 14 4, .tail 11 11, .tail 10 10, .jump 14 (-4), .head 8 11, .tail 8 8, .jump 14 15, .tail 5 5, .move 10 7, .move 11 4, .jump 10 2, .jump 14 4, .tail 11 11, .tail 10 10, .jump 14 (-4), .head 8 11, .jump 8 25, .tail 2 2, .set 13 .nil, .cons 3 13 3, .jump 14 (-79), .move 11 4, .set 12 .nil, .move 10 7, .jump 10 2, .jump 14 6, .head 13 11, .cons 12 13 12, .tail 11 11, .tail 10 10, .jump 14 (-6), .tail 11 11, .cons 11 8 11, .jump 12 2, .jump 14 5, .head 13 12, .cons 11 13 11, .tail 12 12, .jump 14 (-5), .move 4 11, .jump 14 (-23), .head 13 6, .tail 10 6, .jump 13 9, .jump 10 2, .jump 14 6, .tail 2 2, .set 13 .nil, .cons 3 13 3, .tail 10 10, .jump 14 (-6), .jump 14 (-110), .jump 10 2, .jump 14 4, .tail 3 3, .tail 10 10, .jump 14 (-4), .move 2 1, .move 10 3, .jump 10 2, .jump 14 4, .tail 2 2, .tail 10 10, .jump 14 (-4), .jump 14 (-123)]

/-! ### A machine with whatever limit -/
def step1L (lim : Nat) (x : I) (s : St) : Option St :=
  match x with
  | .set a t => some ⟨s.pc + 1, upd s.r a t⟩
  | .move a b => some ⟨s.pc + 1, upd s.r a (s.r b)⟩
  | .cons a b c => if (s.r b).size + (s.r c).size < lim then some ⟨s.pc + 1, upd s.r a (.pair (s.r b) (s.r c))⟩ else none
  | .head a b => some ⟨s.pc + 1, upd s.r a (s.r b).head⟩
  | .tail a b => some ⟨s.pc + 1, upd s.r a (s.r b).tail⟩
  | .jump a d => some ⟨if s.r a = .nil then s.pc + 1 else ((s.pc : Int) + d).toNat, s.r⟩
theorem step1L_max (x : I) (s : St) : step1L MaxT x s = step1 x s := by cases x <;> rfl
def stepL (lim : Nat) (q : List I) (s : St) : Option St := match q[s.pc]? with
  | some x => step1L lim x s
  | none => none
theorem stepL_max (q : List I) (s : St) : stepL MaxT q s = step q s := by
  unfold stepL step; cases q[s.pc]? with
  | none => rfl
  | some x => exact step1L_max x s
def stepsL (lim : Nat) (q : List I) : Nat → St → Option St
  | 0, s => some s
  | m + 1, s => (stepL lim q s).bind (stepsL lim q m)
theorem stepsL_max (q : List I) : ∀ (m : Nat) (s : St), stepsL MaxT q m s = steps q m s
  | 0, _ => rfl
  | m + 1, s => by
    simp only [stepsL, steps, stepL_max]
    cases step q s with
    | none => rfl
    | some t => exact stepsL_max q m t
theorem step1L_mono {lim lim' : Nat} (h : lim ≤ lim') {x : I} {s t : St} (e : step1L lim x s = some t) : step1L lim' x s = some t := by
  cases x with
  | cons a b c =>
    simp only [step1L] at e ⊢
    split at e
    · rw [if_pos (by omega)]; exact e
    · cases e
  | _ => exact e
theorem stepL_mono {lim lim' : Nat} (h : lim ≤ lim') {q : List I} {s t : St} (e : stepL lim q s = some t) : stepL lim' q s = some t := by
  unfold stepL at e ⊢
  cases hx : q[s.pc]? with
  | none => rw [hx] at e; cases e
  | some x => rw [hx] at e; exact step1L_mono h e
theorem stepsL_mono {lim lim' : Nat} (h : lim ≤ lim') {q : List I} : ∀ (m : Nat) {s t : St}, stepsL lim q m s = some t → stepsL lim' q m s = some t
  | 0, _, _, e => e
  | m + 1, s, t, e => by
    simp only [stepsL] at e ⊢
    cases hs : stepL lim q s with
    | none => rw [hs] at e; cases e
    | some u => rw [hs] at e; rw [stepL_mono h hs]; exact stepsL_mono h m e
/-- A run with a wider limit: the narrower one goes the same way, or comes to a step that is too large. -/
theorem stepsL_narrow {lim lim' : Nat} (h : lim ≤ lim') {q : List I} : ∀ (m : Nat) {s t : St}, stepsL lim' q m s = some t →
    stepsL lim q m s = some t ∨ ∃ j u, j < m ∧ stepsL lim q j s = some u ∧ stepL lim q u = none ∧ u.pc < q.length
  | 0, s, t, e => .inl e
  | m + 1, s, t, e => by
    simp only [stepsL] at e
    cases hs' : stepL lim' q s with
    | none => rw [hs'] at e; cases e
    | some u =>
      rw [hs'] at e
      have hpc : s.pc < q.length := by
        rcases Nat.lt_or_ge s.pc q.length with h | h
        · exact h
        · unfold stepL at hs'; rw [List.getElem?_eq_none h] at hs'; cases hs'
      cases hs : stepL lim q s with
      | none => exact .inr ⟨0, s, by omega, rfl, hs, hpc⟩
      | some v =>
        have := stepL_mono h hs
        rw [hs'] at this; cases this
        rcases stepsL_narrow h m e with h1 | ⟨j, w, h1, h2, h3, h4⟩
        · left; simp only [stepsL, hs]; exact h1
        · right; exact ⟨j + 1, w, by omega, by simp only [stepsL, hs]; exact h2, h3, h4⟩
theorem stepsL_add (lim : Nat) (q : List I) : ∀ (m n : Nat) (s : St), stepsL lim q (m + n) s = (stepsL lim q m s).bind (stepsL lim q n)
  | 0, n, s => by simp [stepsL]
  | m + 1, n, s => by
    rw [show m + 1 + n = (m + n) + 1 by omega]
    simp only [stepsL]
    cases stepL lim q s with
    | none => rfl
    | some t => exact stepsL_add lim q m n t
theorem sthen {lim : Nat} {q : List I} {m n : Nat} {s t u : St} (h : stepsL lim q m s = some t) (k : stepsL lim q n t = some u) : stepsL lim q (m + n) s = some u := by
  rw [stepsL_add, h]; exact k
theorem sone {lim : Nat} {q : List I} {s t : St} (h : stepL lim q s = some t) : stepsL lim q 1 s = some t := by simp [stepsL, h]

/-! ### Numbers and lists as trees -/
def T.nm : Nat → T
  | 0 => .nil
  | n + 1 => .pair .nil (T.nm n)
theorem T.nm_size (n : Nat) : (T.nm n).size = 2 * n + 1 := by
  induction n with
  | zero => rfl
  | succ n ih => simp [T.nm, T.size, ih]; omega
def T.list : List T → T
  | [] => .nil
  | t :: l => .pair t (T.list l)
theorem T.list_tail (l : List T) : (T.list l).tail = T.list l.tail := by cases l <;> rfl
theorem T.list_head (l : List T) : (T.list l).head = l.headD .nil := by cases l <;> rfl
theorem T.list_nil {l : List T} : T.list l = .nil ↔ l = [] := by cases l <;> simp [T.list]
def T.tl : Nat → T → T
  | 0, t => t
  | n + 1, t => T.tl n t.tail
theorem T.tl_list : ∀ (n : Nat) (l : List T), T.tl n (T.list l) = T.list (l.drop n)
  | 0, l => rfl
  | n + 1, l => by
    simp only [T.tl, T.list_tail, T.tl_list n]
    cases l <;> simp
theorem T.tl_nm : ∀ (n m : Nat), T.tl n (T.nm m) = T.nm (m - n)
  | 0, m => rfl
  | n + 1, 0 => by simp only [T.tl, T.nm, T.tail]; have := T.tl_nm n 0; simp only [T.nm] at this; rw [this]; simp [T.nm]
  | n + 1, m + 1 => by simp only [T.tl, T.nm, T.tail, T.tl_nm n m]; congr 1; omega
def I.code : I → T
  | .set a t => .pair (T.nm 0) (.pair (T.nm a) t)
  | .move a b => .pair (T.nm 1) (.pair (T.nm a) (T.nm b))
  | .cons a b c => .pair (T.nm 2) (.pair (T.nm a) (.pair (T.nm b) (T.nm c)))
  | .head a b => .pair (T.nm 3) (.pair (T.nm a) (T.nm b))
  | .tail a b => .pair (T.nm 4) (.pair (T.nm a) (T.nm b))
  | .jump a d => .pair (T.nm 5) (.pair (T.nm a) (if d < 0 then .pair (T.nm 1) (T.nm (-d).toNat) else .pair .nil (T.nm d.toNat)))
def codeT (q : List I) : T := T.list (q.map I.code)

