import Derived.Test.YtgbieakahgkkpaaIns
namespace Go.Proofs.Ytgbieakahgkkpaa

/-- m steps. -/
def steps (q : List I) : Nat → St → Option St
  | 0, s => some s
  | m + 1, s => (step q s).bind (steps q m)

theorem steps_add (q : List I) : ∀ (m n : Nat) (s : St), steps q (m + n) s = (steps q m s).bind (steps q n)
  | 0, n, s => by simp [steps]
  | m + 1, n, s => by
    rw [show m + 1 + n = (m + n) + 1 by omega]
    simp only [steps]
    cases step q s with
    | none => rfl
    | some t => exact steps_add q m n t
theorem steps_then {q : List I} {m n : Nat} {s t u : St} (h : steps q m s = some t) (k : steps q n t = some u) : steps q (m + n) s = some u := by
  rw [steps_add, h]; exact k
theorem steps_one {q : List I} {s t : St} (h : step q s = some t) : steps q 1 s = some t := by simp [steps, h]
theorem step_end {q : List I} {s : St} (h : s.pc = q.length) : step q s = none := by
  unfold step; rw [List.getElem?_eq_none (by omega)]

theorem play_ended (q : List I) : ∀ (f k : Nat) (s : St) (y : T) (j : Nat), play q f k s = .ended y j ↔ ∃ m t, m ≤ f ∧ j = k + m ∧ steps q m s = some t ∧ t.pc = q.length ∧ y = t.r 0
  | 0, k, s, y, j => by
    unfold play
    split
    · rename_i h
      constructor
      · intro e; cases e; exact ⟨0, s, by omega, by omega, rfl, h, rfl⟩
      · rintro ⟨m, t, hm, rfl, hs, ht, rfl⟩
        obtain rfl : m = 0 := by omega
        simp only [steps, Option.some.injEq] at hs; subst hs; rfl
    · rename_i h
      constructor
      · intro e; cases e
      · rintro ⟨m, t, hm, rfl, hs, ht, rfl⟩
        obtain rfl : m = 0 := by omega
        simp only [steps, Option.some.injEq] at hs; subst hs; exact absurd ht h
  | f + 1, k, s, y, j => by
    unfold play
    split
    · rename_i h
      constructor
      · intro e; cases e; exact ⟨0, s, by omega, by omega, rfl, h, rfl⟩
      · rintro ⟨m, t, hm, rfl, hs, ht, rfl⟩
        cases m with
        | zero => simp only [steps, Option.some.injEq] at hs; subst hs; rfl
        | succ m => simp only [steps, step_end h] at hs; cases hs
    · rename_i h
      cases hst : step q s with
      | none =>
        constructor
        · intro e; cases e
        · rintro ⟨m, t, hm, rfl, hs, ht, rfl⟩
          cases m with
          | zero => simp only [steps, Option.some.injEq] at hs; subst hs; exact absurd ht h
          | succ m => simp only [steps, hst] at hs; cases hs
      | some u =>
        simp only
        rw [play_ended q f (k + 1) u y j]
        constructor
        · rintro ⟨m, t, hm, rfl, hs, ht, rfl⟩
          exact ⟨m + 1, t, by omega, by omega, by simp only [steps, hst]; exact hs, ht, rfl⟩
        · rintro ⟨m, t, hm, rfl, hs, ht, rfl⟩
          cases m with
          | zero => simp only [steps, Option.some.injEq] at hs; subst hs; exact absurd ht h
          | succ m => simp only [steps, hst] at hs; exact ⟨m, t, by omega, by omega, hs, ht, rfl⟩

theorem play_going (q : List I) : ∀ (f k : Nat) (s : St) (j : Nat), play q f k s = .going j → j = k + f ∧ ∃ t, steps q f s = some t ∧ t.pc ≠ q.length
  | 0, k, s, j => by
    unfold play
    split
    · intro e; cases e
    · rename_i h
      intro e; cases e; exact ⟨by omega, s, rfl, h⟩
  | f + 1, k, s, j => by
    unfold play
    split
    · intro e; cases e
    · cases hst : step q s with
      | none => intro e; cases e
      | some u =>
        intro e
        obtain ⟨h1, t, h2, h3⟩ := play_going q f (k + 1) u j e
        exact ⟨by omega, t, by simp only [steps, hst]; exact h2, h3⟩

/-- A run that has not ended after as many steps has not ended before. -/
theorem not_ended {q : List I} {M f : Nat} {s t : St} (h : steps q M s = some t) (ht : t.pc ≠ q.length) (hf : f ≤ M) : ∀ y j, play q f 0 s ≠ .ended y j := by
  intro y j e
  obtain ⟨m, u, hm, rfl, hs, hu, rfl⟩ := (play_ended q f 0 s y j).1 e
  obtain ⟨d, rfl⟩ : ∃ d, M = m + d := ⟨M - m, by omega⟩
  rw [steps_add, hs] at h
  cases d with
  | zero => simp only [Option.bind, steps, Option.some.injEq] at h; subst h; exact ht hu
  | succ d => simp [steps, step_end hu] at h

/-- c lies in q from place o on. -/
def Emb (q : List I) (o : Nat) (c : List I) : Prop := ∀ (i : Nat) (x : I), c[i]? = some x → q[o + i]? = some x
theorem Emb.mk (a c b : List I) : Emb (a ++ (c ++ b)) a.length c := by
  intro i x h
  have hi := (List.getElem?_eq_some_iff.1 h).1
  rw [List.getElem?_append_right (by omega), show a.length + i - a.length = i by omega, List.getElem?_append_left hi, h]

/-- Registers that lie in a program's reach alike. -/
theorem step1_emb {x : I} {o i n : Nat} {s t u : St} {m : Nat} (hx : wfI i n x) (hr : x.regs < m) (hi : s.pc = i) (h : step1 x s = some t) (hpc : u.pc = o + s.pc) (hag : ∀ j, j < m → u.r j = s.r j) :
    ∃ v, step1 x u = some v ∧ v.pc = o + t.pc ∧ (∀ j, j < m → v.r j = t.r j) ∧ (∀ j, m ≤ j → v.r j = u.r j) := by
  have hupd : ∀ (a : Nat) (y : T), a < m → (∀ j, j < m → upd u.r a y j = upd s.r a y j) ∧ ∀ j, m ≤ j → upd u.r a y j = u.r j := by
    intro a y ha
    refine ⟨fun j hj => ?_, fun j hj => ?_⟩
    · unfold upd; split
      · rfl
      · exact hag j hj
    · unfold upd; rw [if_neg (by omega)]
  cases x with
  | set a y =>
    simp only [I.regs] at hr; simp only [step1, Option.some.injEq] at h ⊢; subst h
    exact ⟨_, rfl, by simp only; omega, (hupd a y hr).1, (hupd a y hr).2⟩
  | move a b =>
    simp only [I.regs] at hr; simp only [step1, Option.some.injEq] at h ⊢; subst h
    rw [hag b (by omega)]
    exact ⟨_, rfl, by simp only; omega, (hupd a _ (by omega)).1, (hupd a _ (by omega)).2⟩
  | cons a b c =>
    simp only [I.regs] at hr; simp only [step1] at h ⊢
    rw [hag b (by omega), hag c (by omega)]
    split at h
    · rename_i hlt
      simp only [Option.some.injEq] at h; subst h
      rw [if_pos hlt]
      exact ⟨_, rfl, by simp only; omega, (hupd a _ (by omega)).1, (hupd a _ (by omega)).2⟩
    · cases h
  | head a b =>
    simp only [I.regs] at hr; simp only [step1, Option.some.injEq] at h ⊢; subst h
    rw [hag b (by omega)]
    exact ⟨_, rfl, by simp only; omega, (hupd a _ (by omega)).1, (hupd a _ (by omega)).2⟩
  | tail a b =>
    simp only [I.regs] at hr; simp only [step1, Option.some.injEq] at h ⊢; subst h
    rw [hag b (by omega)]
    exact ⟨_, rfl, by simp only; omega, (hupd a _ (by omega)).1, (hupd a _ (by omega)).2⟩
  | jump a d =>
    simp only [I.regs] at hr; simp only [wfI] at hx; simp only [step1, Option.some.injEq] at h ⊢; subst h
    rw [hag a (by omega)]
    refine ⟨_, rfl, ?_, hag, fun _ _ => rfl⟩
    simp only
    split <;> omega

theorem steps_emb {q c : List I} {o : Nat} (he : Emb q o c) (hw : WF c) {m : Nat} (hm : ∀ x ∈ c, x.regs < m) : ∀ (f : Nat) (s t u : St), steps c f s = some t → u.pc = o + s.pc → (∀ j, j < m → u.r j = s.r j) →
    ∃ v, steps q f u = some v ∧ v.pc = o + t.pc ∧ (∀ j, j < m → v.r j = t.r j) ∧ (∀ j, m ≤ j → v.r j = u.r j)
  | 0, s, t, u, h, hpc, hag => by simp only [steps, Option.some.injEq] at h; subst h; exact ⟨u, rfl, hpc, hag, fun _ _ => rfl⟩
  | f + 1, s, t, u, h, hpc, hag => by
    simp only [steps] at h ⊢
    cases hs : step c s with
    | none => rw [hs] at h; cases h
    | some s1 =>
      rw [hs] at h
      unfold step at hs
      cases hx : c[s.pc]? with
      | none => rw [hx] at hs; cases hs
      | some x =>
        rw [hx] at hs
        obtain ⟨v, h1, h2, h3, h4⟩ := step1_emb (o := o) (hw s.pc x hx) (hm x (List.mem_of_getElem? hx)) rfl hs hpc hag
        have hq : step q u = some v := by unfold step; rw [hpc, he s.pc x hx]; exact h1
        rw [hq]
        obtain ⟨v', k1, k2, k3, k4⟩ := steps_emb he hw hm f s1 t v h h2 h3
        exact ⟨v', k1, k2, k3, fun j hj => (k4 j hj).trans (h4 j hj)⟩

theorem steps_pc {c : List I} (hw : WF c) : ∀ (f : Nat) (s t : St), s.pc ≤ c.length → steps c f s = some t → t.pc ≤ c.length
  | 0, s, t, h, e => by simp only [steps, Option.some.injEq] at e; subst e; exact h
  | f + 1, s, t, h, e => by
    simp only [steps] at e
    cases hs : step c s with
    | none => rw [hs] at e; cases e
    | some s1 =>
      rw [hs] at e
      by_cases hp : s.pc = c.length
      · rw [step_end hp] at hs; cases hs
      · exact steps_pc hw f s1 t (wf_pc hw (by omega) hs) e

/-- Registers as a program finds them: the input, and nil in the others that it uses. -/
def Clean (n : Nat) (x : T) (r : Nat → T) : Prop := r 0 = x ∧ ∀ j, 1 ≤ j → j < n → r j = .nil

theorem run_ended {q c : List I} {o f m : Nat} {x y : T} {r : Nat → T} (he : Emb q o c) (hw : WF c) (hp : play c f 0 (first x) = .ended y m) (hr : Clean (regsOf c) x r) :
    ∃ r', steps q m ⟨o, r⟩ = some ⟨o + c.length, r'⟩ ∧ r' 0 = y ∧ ∀ j, regsOf c ≤ j → r' j = r j := by
  obtain ⟨m', t, hm, rfl, hs, ht, rfl⟩ := (play_ended _ _ _ _ _ _).1 hp
  obtain ⟨v, h1, h2, h3, h4⟩ := steps_emb he hw (m := regsOf c) (fun x hx => mem_regs_lt hx) m' (first x) t ⟨o, r⟩ hs rfl (fun j hj => by
    simp only [first]
    by_cases h0 : j = 0
    · subst h0; simp [hr.1]
    · rw [if_neg h0]; exact hr.2 j (by omega) hj)
  obtain ⟨vp, vr⟩ := v
  simp only at h2 h3 h4
  subst h2
  rw [ht] at h1
  refine ⟨vr, by rw [Nat.zero_add]; exact h1, h3 0 (by unfold regsOf; omega), h4⟩

theorem run_going {q c : List I} {o f j : Nat} {x : T} {r : Nat → T} (he : Emb q o c) (hw : WF c) (hp : play c f 0 (first x) = .going j) (hr : Clean (regsOf c) x r) :
    ∃ v, steps q f ⟨o, r⟩ = some v ∧ v.pc < o + c.length := by
  obtain ⟨_, t, hs, ht⟩ := play_going _ _ _ _ _ hp
  obtain ⟨v, h1, h2, _⟩ := steps_emb he hw (m := regsOf c) (fun x hx => mem_regs_lt hx) f (first x) t ⟨o, r⟩ hs rfl (fun j hj => by
    simp only [first]
    by_cases h0 : j = 0
    · subst h0; simp [hr.1]
    · rw [if_neg h0]; exact hr.2 j (by omega) hj)
  have := steps_pc hw f (first x) t (by simp [first]) hs
  exact ⟨v, h1, by omega⟩

/-- All registers below a number are nil after cleaning; the others are as before. -/
def cleanI (n : Nat) : List I := (List.range (n - 1)).map fun i => .set (i + 1) .nil
theorem cleanI_length (n : Nat) : (cleanI n).length = n - 1 := by simp [cleanI]
theorem cleanI_get {n i : Nat} (h : i < n - 1) : (cleanI n)[i]? = some (.set (i + 1) .nil) := by
  simp [cleanI, h]

theorem run_clean {q : List I} {o n : Nat} (he : Emb q o (cleanI n)) (r : Nat → T) : ∀ k, k ≤ n - 1 → steps q k ⟨o, r⟩ = some ⟨o + k, fun j => if 1 ≤ j ∧ j ≤ k then .nil else r j⟩
  | 0, _ => by simp only [steps]; congr 2; funext j; rw [if_neg (by omega)]
  | k + 1, hk => by
    refine steps_then (run_clean he r k (by omega)) (steps_one ?_)
    unfold step
    simp only
    rw [he k _ (cleanI_get (by omega))]
    simp only [step1, Nat.add_assoc]
    congr 2
    funext j
    unfold upd
    split
    · rename_i h; subst h; rw [if_pos (by omega)]
    · rename_i h
      show (if 1 ≤ j ∧ j ≤ k then T.nil else r j) = _
      by_cases hj : 1 ≤ j ∧ j ≤ k
      · rw [if_pos hj, if_pos (by omega)]
      · rw [if_neg hj, if_neg (by omega)]

theorem run_clean' {q : List I} {o n : Nat} (he : Emb q o (cleanI n)) (r : Nat → T) : ∃ r', steps q (n - 1) ⟨o, r⟩ = some ⟨o + (n - 1), r'⟩ ∧ Clean n (r 0) r' ∧ ∀ j, n ≤ j → 1 ≤ j → r' j = r j :=
  ⟨_, run_clean he r (n - 1) (Nat.le_refl _), ⟨by simp, fun j h1 h2 => if_pos (by omega)⟩, fun j h1 h2 => if_neg (by omega)⟩

theorem le_sum : ∀ (l : List Nat) (a : Nat), a ∈ l → a ≤ l.sum
  | [], a, h => by cases h
  | b :: l, a, h => by
    rw [List.sum_cons]
    rcases List.mem_cons.1 h with rfl | h
    · omega
    · have := le_sum l a h; omega

/-- No register outgrows the limit. -/
theorem step_size {q : List I} (hq : charsOf q ≤ MaxT) {s t : St} (h : step q s = some t) (hs : ∀ j, (s.r j).size ≤ MaxT) : ∀ j, (t.r j).size ≤ MaxT := by
  unfold step at h
  cases hx : q[s.pc]? with
  | none => rw [hx] at h; cases h
  | some x =>
    rw [hx] at h
    simp only at h
    have hmem := List.mem_of_getElem? hx
    have hxc : x.chars ≤ charsOf q := by
      unfold charsOf
      exact le_sum _ _ (List.mem_map.2 ⟨x, hmem, rfl⟩)
    have hupd : ∀ (a : Nat) (y : T), y.size ≤ MaxT → ∀ j, (upd s.r a y j).size ≤ MaxT := by
      intro a y hy j; unfold upd; split
      · exact hy
      · exact hs j
    have hsub : ∀ t : T, t.head.size ≤ max t.size 1 ∧ t.tail.size ≤ max t.size 1 := by
      intro t; cases t <;> simp [T.head, T.tail, T.size] <;> omega
    cases x with
    | set a y => simp only [step1, Option.some.injEq] at h; subst h; exact hupd a y (by simp only [I.chars] at hxc; omega)
    | move a b => simp only [step1, Option.some.injEq] at h; subst h; exact hupd a _ (hs b)
    | cons a b c =>
      simp only [step1] at h
      split at h
      · simp only [Option.some.injEq] at h; subst h; exact hupd a _ (by simp only [T.size]; omega)
      · cases h
    | head a b => simp only [step1, Option.some.injEq] at h; subst h; exact hupd a _ (by have := (hsub (s.r b)).1; have := hs b; have : 1 ≤ MaxT := by decide
                                                                                         omega)
    | tail a b => simp only [step1, Option.some.injEq] at h; subst h; exact hupd a _ (by have := (hsub (s.r b)).2; have := hs b; have : 1 ≤ MaxT := by decide
                                                                                         omega)
    | jump a d => simp only [step1, Option.some.injEq] at h; subst h; exact hs

theorem steps_size {q : List I} (hq : charsOf q ≤ MaxT) : ∀ (m : Nat) (s t : St), steps q m s = some t → (∀ j, (s.r j).size ≤ MaxT) → ∀ j, (t.r j).size ≤ MaxT
  | 0, s, t, h, hs => by simp only [steps, Option.some.injEq] at h; subst h; exact hs
  | m + 1, s, t, h, hs => by
    simp only [steps] at h
    cases h1 : step q s with
    | none => rw [h1] at h; cases h
    | some u => rw [h1] at h; exact steps_size hq m u t h (step_size hq h1 hs)

theorem play_size {q : List I} (hq : charsOf q ≤ MaxT) {f j : Nat} {x y : T} (hx : x.size ≤ MaxT) (h : play q f 0 (first x) = .ended y j) : y.size ≤ MaxT ∧ j ≤ f := by
  obtain ⟨m, t, hm, rfl, hs, ht, rfl⟩ := (play_ended _ _ _ _ _ _).1 h
  refine ⟨steps_size hq m _ _ hs (fun j => ?_) 0, by omega⟩
  simp only [first]
  split
  · exact hx
  · decide
end Go.Proofs.Ytgbieakahgkkpaa
