/- What the universal program does, piece by piece. Plain Lean. -/
import Derived.Test.YtgbieakahgkkpaaUniA
namespace Go.Proofs.Ytgbieakahgkkpaa

abbrev tt : T := .pair .nil .nil
theorem jump_yes {lim : Nat} {q : List I} {pc pc' a : Nat} {d : Int} {r : Nat → T} (h : q[pc]? = some (.jump a d)) (hr : r a ≠ .nil) (e : (pc' : Int) = pc + d) : stepsL lim q 1 ⟨pc, r⟩ = some ⟨pc', r⟩ := by
  refine sone ?_
  unfold stepL
  simp only [h, step1L, if_neg hr]
  congr 2; omega
theorem jump_no {lim : Nat} {q : List I} {pc a : Nat} {d : Int} {r : Nat → T} (h : q[pc]? = some (.jump a d)) (hr : r a = .nil) : stepsL lim q 1 ⟨pc, r⟩ = some ⟨pc + 1, r⟩ := by
  refine sone ?_
  unfold stepL
  simp only [h, step1L, if_pos hr]
theorem cons_yes {lim : Nat} {q : List I} {pc a b c : Nat} {r : Nat → T} (h : q[pc]? = some (.cons a b c)) (hr : (r b).size + (r c).size < lim) : stepsL lim q 1 ⟨pc, r⟩ = some ⟨pc + 1, upd r a (.pair (r b) (r c))⟩ := by
  refine sone ?_
  unfold stepL
  simp only [h, step1L, if_pos hr]

theorem sgo {lim M m n : Nat} {q : List I} {s t u : St} (h : stepsL lim q m s = some t) (k : stepsL lim q n t = some u) (e : m + n = M) : stepsL lim q M s = some u := e ▸ sthen h k

/-- The registers that stay through a step. -/
def Keep (r r' : Nat → T) : Prop := r' 1 = r 1 ∧ r' 2 = r 2 ∧ r' 3 = r 3 ∧ r' 4 = r 4 ∧ r' 14 = r 14
theorem Keep.trans {a b c : Nat → T} (h : Keep a b) (k : Keep b c) : Keep a c :=
  ⟨k.1.trans h.1, k.2.1.trans h.2.1, k.2.2.1.trans h.2.2.1, k.2.2.2.1.trans h.2.2.2.1, k.2.2.2.2.trans h.2.2.2.2⟩
theorem Keep.refl (a : Nat → T) : Keep a a := ⟨rfl, rfl, rfl, rfl, rfl⟩

section
variable {lim : Nat} {r : Nat → T}

/-- The instruction is taken apart. -/
theorem un_disp {o f g R : T} (h : r 2 = .pair (.pair o (.pair f g)) R) : ∃ r', stepsL lim uProg 6 ⟨5, r⟩ = some ⟨13, r'⟩ ∧ Keep r r' ∧ r' 5 = o ∧ r' 6 = g ∧ r' 7 = f := by
  have s1 : stepsL lim uProg 1 ⟨5, r⟩ = some ⟨8, r⟩ := jump_yes rfl (by rw [h]; simp) rfl
  have s2 : stepsL lim uProg 5 ⟨8, r⟩ = some ⟨13, _⟩ := rfl
  refine ⟨_, sthen s1 s2, ?_, ?_, ?_, ?_⟩ <;> simp [upd, Keep, h, T.head, T.tail]

/-- The end. -/
theorem un_end (h : r 2 = .nil) (h14 : r 14 = tt) : ∃ r', stepsL lim uProg 3 ⟨5, r⟩ = some ⟨129, r'⟩ ∧ r' 0 = (r 4).head := by
  have s1 : stepsL lim uProg 1 ⟨5, r⟩ = some ⟨6, r⟩ := jump_no rfl h
  have s2 : stepsL lim uProg 1 ⟨6, r⟩ = some ⟨7, _⟩ := rfl
  have s3 : stepsL lim uProg 1 ⟨7, upd r 0 (r 4).head⟩ = some ⟨129, _⟩ := jump_yes rfl (by simp [upd, h14]) rfl
  exact ⟨_, sthen (sthen s1 s2) s3, by simp [upd]⟩

/-- A loop that takes tails as often as a number says. -/
theorem un_count {P x : Nat} (hx : x ≠ 10) (hx' : x ≠ 14) (h0 : uProg[P]? = some (.jump 10 2)) (h1 : uProg[P + 1]? = some (.jump 14 4)) (h2 : uProg[P + 2]? = some (.tail x x)) (h3 : uProg[P + 3]? = some (.tail 10 10)) (h4 : uProg[P + 4]? = some (.jump 14 (-4))) :
    ∀ (n : Nat) (r : Nat → T), r 10 = T.nm n → r 14 = tt → ∃ r', stepsL lim uProg (4 * n + 2) ⟨P, r⟩ = some ⟨P + 5, r'⟩ ∧ r' x = T.tl n (r x) ∧ ∀ j, j ≠ x → j ≠ 10 → r' j = r j
  | 0, r, h10, h14 => by
    have s1 : stepsL lim uProg 1 ⟨P, r⟩ = some ⟨P + 1, r⟩ := jump_no h0 h10
    have s2 : stepsL lim uProg 1 ⟨P + 1, r⟩ = some ⟨P + 5, r⟩ := jump_yes h1 (by rw [h14]; simp) (by omega)
    exact ⟨r, sgo s1 s2 rfl, rfl, fun _ _ _ => rfl⟩
  | n + 1, r, h10, h14 => by
    have s1 : stepsL lim uProg 1 ⟨P, r⟩ = some ⟨P + 2, r⟩ := jump_yes h0 (by rw [h10]; simp [T.nm]) (by omega)
    have s2 : stepsL lim uProg 1 ⟨P + 2, r⟩ = some ⟨P + 3, upd r x (r x).tail⟩ := sone (by unfold stepL; simp only [h2, step1L])
    have s3 : stepsL lim uProg 1 ⟨P + 3, upd r x (r x).tail⟩ = some ⟨P + 4, upd (upd r x (r x).tail) 10 (r 10).tail⟩ := sone (by unfold stepL; simp only [h3, step1L]; simp [upd, Ne.symm hx])
    have s4 : stepsL lim uProg 1 ⟨P + 4, upd (upd r x (r x).tail) 10 (r 10).tail⟩ = some ⟨P, upd (upd r x (r x).tail) 10 (r 10).tail⟩ := jump_yes h4 (by simp [upd, Ne.symm hx', h14]) (by omega)
    obtain ⟨r', s5, h5, h6⟩ := un_count hx hx' h0 h1 h2 h3 h4 n (upd (upd r x (r x).tail) 10 (r 10).tail) (by simp [upd, h10, T.nm, T.tail]) (by simp [upd, Ne.symm hx', h14])
    refine ⟨r', ?_, ?_, ?_⟩
    · have := sthen (sthen (sthen (sthen s1 s2) s3) s4) s5
      rwa [show 1 + 1 + 1 + 1 + (4 * n + 2) = 4 * (n + 1) + 2 by omega] at this
    · rw [h5]; simp [upd, hx, T.tl]
    · intro j hj hj'
      rw [h6 j hj hj']; simp [upd, hj, hj']
end
section
variable {lim : Nat} {r : Nat → T}

/-- The number of the operation is counted down. -/
theorem un_kind {P L : Nat} {d : Int} (h0 : uProg[P]? = some (.jump 5 d)) (h1 : uProg[L]? = some (.tail 5 5)) (e : (L : Int) = P + d) {o : Nat} (h : r 5 = T.nm (o + 1)) :
    ∃ r', stepsL lim uProg 2 ⟨P, r⟩ = some ⟨L + 1, r'⟩ ∧ r' 5 = T.nm o ∧ ∀ j, j ≠ 5 → r' j = r j := by
  have s1 : stepsL lim uProg 1 ⟨P, r⟩ = some ⟨L, r⟩ := jump_yes h0 (by rw [h]; simp [T.nm]) e
  have s2 : stepsL lim uProg 1 ⟨L, r⟩ = some ⟨L + 1, upd r 5 (r 5).tail⟩ := sone (by unfold stepL; simp only [h1, step1L])
  exact ⟨_, sthen s1 s2, by simp [upd, h, T.nm, T.tail], fun j hj => by simp [upd, hj]⟩

/-- A register of the program is taken: before it stand two moves. -/
theorem un_fetch {P to : Nat} (L : List T) (n : Nat) (h : uProg[P]? = some (.move 11 4)) (h0 : uProg[P + 1]? = some (.jump 10 2)) (h1 : uProg[P + 1 + 1]? = some (.jump 14 4)) (h2 : uProg[P + 1 + 2]? = some (.tail 11 11)) (h3 : uProg[P + 1 + 3]? = some (.tail 10 10))
    (h4 : uProg[P + 1 + 4]? = some (.jump 14 (-4))) (h5 : uProg[P + 1 + 5]? = some (.head to 11)) (r4 : r 4 = T.list L) (r10 : r 10 = T.nm n) (r14 : r 14 = tt) :
    ∃ r', stepsL lim uProg (4 * n + 4) ⟨P, r⟩ = some ⟨P + 7, r'⟩ ∧ r' to = L.getD n .nil ∧ ∀ j, j ≠ to → j ≠ 10 → j ≠ 11 → r' j = r j := by
  have s1 : stepsL lim uProg 1 ⟨P, r⟩ = some ⟨P + 1, upd r 11 (r 4)⟩ := sone (by unfold stepL; simp only [h, step1L])
  obtain ⟨r2, s2, a2, b2⟩ := un_count (lim := lim) (P := P + 1) (x := 11) (by omega) (by omega) h0 h1 h2 h3 h4 n (upd r 11 (r 4)) (by simp [upd, r10]) (by simp [upd, r14])
  have s3 : stepsL lim uProg 1 ⟨P + 1 + 5, r2⟩ = some ⟨P + 1 + 5 + 1, upd r2 to (r2 11).head⟩ := sone (by unfold stepL; simp only [h5, step1L])
  refine ⟨upd r2 to (r2 11).head, ?_, ?_, ?_⟩
  · have := sthen (sthen s1 s2) s3
    rwa [show 1 + (4 * n + 2) + 1 = 4 * n + 4 by omega] at this
  · have : upd r 11 (r 4) 11 = T.list L := by simp [upd, r4]
    rw [this, T.tl_list] at a2
    simp only [upd, if_true, a2, T.list_head]
    cases hL : L.drop n with
    | nil =>
      have : L.length ≤ n := by simpa using hL
      simp [List.getElem?_eq_none this]
    | cons y l =>
      have : L[n]? = some y := by rw [← List.head?_drop, hL]; rfl
      simp [this]
  · intro j h1 h2 h3
    simp [upd, h1, b2 j h3 h2, h3]

/-- The list's beginning, turned round, and the rest. -/
def spin : Nat → List T → List T → List T × List T
  | 0, R, D => (R, D)
  | n + 1, R, D => spin n (D.headD .nil :: R) D.tail

/-- How many characters a list has. -/
def tot (L : List T) : Nat := (T.list L).size
theorem tot_cons (t : T) (L : List T) : tot (t :: L) = 1 + t.size + tot L := rfl
theorem tot_tail (L : List T) : (L.headD .nil).size + tot L.tail ≤ tot L + 1 := by
  cases L with
  | nil => simp [tot, T.list, T.size]
  | cons t L => rw [tot_cons]; simp; omega

theorem un_spin : ∀ (n : Nat) (R D : List T) (r : Nat → T), r 10 = T.nm n → r 11 = T.list D → r 12 = T.list R → r 14 = tt → tot R + tot D + 2 * n ≤ lim →
    ∃ r', stepsL lim uProg (6 * n + 2) ⟨88, r⟩ = some ⟨95, r'⟩ ∧ r' 11 = T.list (spin n R D).2 ∧ r' 12 = T.list (spin n R D).1 ∧ ∀ j, j ≠ 10 → j ≠ 11 → j ≠ 12 → j ≠ 13 → r' j = r j
  | 0, R, D, r, h10, h11, h12, h14, hl => by
    have s1 : stepsL lim uProg 1 ⟨88, r⟩ = some ⟨89, r⟩ := jump_no rfl h10
    have s2 : stepsL lim uProg 1 ⟨89, r⟩ = some ⟨95, r⟩ := jump_yes rfl (by rw [h14]; simp) rfl
    exact ⟨r, sgo s1 s2 rfl, h11, h12, fun _ _ _ _ _ => rfl⟩
  | n + 1, R, D, r, h10, h11, h12, h14, hl => by
    have s1 : stepsL lim uProg 1 ⟨88, r⟩ = some ⟨90, r⟩ := jump_yes rfl (by rw [h10]; simp [T.nm]) rfl
    have s2 : stepsL lim uProg 1 ⟨90, r⟩ = some ⟨91, upd r 13 (r 11).head⟩ := rfl
    have e13 : upd r 13 (r 11).head 13 = D.headD .nil := by simp [upd, h11, T.list_head]
    have e12 : upd r 13 (r 11).head 12 = T.list R := by simp [upd, h12]
    have ht := tot_tail D
    have s3 : stepsL lim uProg 1 ⟨91, upd r 13 (r 11).head⟩ = some ⟨92, _⟩ := cons_yes rfl (by rw [e13, e12]; have : (T.list R).size = tot R := rfl; have hp : 1 ≤ tot D.tail := T.size_pos _; omega)
    rw [e13, e12] at s3
    have s4 : stepsL lim uProg 2 ⟨92, upd (upd r 13 (r 11).head) 12 (.pair (D.headD .nil) (T.list R))⟩ = some ⟨94, _⟩ := rfl
    have s5 := jump_yes (lim := lim) (q := uProg) (pc := 94) (pc' := 88) (a := 14) (d := -6) (r := upd (upd (upd (upd r 13 (r 11).head) 12 (.pair (D.headD .nil) (T.list R))) 11 (r 11).tail) 10 (r 10).tail) rfl (by simp [upd, h14]) rfl
    obtain ⟨r', s6, a, b, c⟩ := un_spin n (D.headD .nil :: R) D.tail (upd (upd (upd (upd r 13 (r 11).head) 12 (.pair (D.headD .nil) (T.list R))) 11 (r 11).tail) 10 (r 10).tail)
      (by simp [upd, h10, T.nm, T.tail]) (by simp [upd, h11, T.list_tail]) (by simp [upd, T.list]) (by simp [upd, h14]) (by rw [tot_cons]; omega)
    refine ⟨r', ?_, a, b, ?_⟩
    · have := sthen (sthen (sthen (sthen (sthen s1 s2) s3) s4) s5) s6
      rwa [show 1 + 1 + 1 + 2 + 1 + (6 * n + 2) = 6 * (n + 1) + 2 by omega] at this
    · intro j h1 h2 h3 h4
      rw [c j h1 h2 h3 h4]; simp [upd, h1, h2, h3, h4]

theorem un_back : ∀ (R D : List T) (r : Nat → T), r 11 = T.list D → r 12 = T.list R → r 14 = tt → tot R + tot D ≤ lim →
    ∃ r', stepsL lim uProg (5 * R.length + 2) ⟨97, r⟩ = some ⟨103, r'⟩ ∧ r' 11 = T.list (R.reverse ++ D) ∧ ∀ j, j ≠ 11 → j ≠ 12 → j ≠ 13 → r' j = r j
  | [], D, r, h11, h12, h14, hl => by
    have s1 : stepsL lim uProg 1 ⟨97, r⟩ = some ⟨98, r⟩ := jump_no rfl h12
    have s2 : stepsL lim uProg 1 ⟨98, r⟩ = some ⟨103, r⟩ := jump_yes rfl (by rw [h14]; simp) rfl
    exact ⟨r, sgo s1 s2 rfl, h11, fun _ _ _ _ => rfl⟩
  | y :: R, D, r, h11, h12, h14, hl => by
    have s1 : stepsL lim uProg 1 ⟨97, r⟩ = some ⟨99, r⟩ := jump_yes rfl (by rw [h12]; simp [T.list]) rfl
    have s2 : stepsL lim uProg 1 ⟨99, r⟩ = some ⟨100, upd r 13 (r 12).head⟩ := rfl
    have e13 : upd r 13 (r 12).head 13 = y := by simp [upd, h12, T.list, T.head]
    have e11 : upd r 13 (r 12).head 11 = T.list D := by simp [upd, h11]
    rw [tot_cons] at hl
    have s3 : stepsL lim uProg 1 ⟨100, upd r 13 (r 12).head⟩ = some ⟨101, _⟩ := cons_yes rfl (by rw [e13, e11]; have : (T.list D).size = tot D := rfl; have hp : 1 ≤ tot R := T.size_pos _; omega)
    rw [e13, e11] at s3
    have s4 : stepsL lim uProg 1 ⟨101, upd (upd r 13 (r 12).head) 11 (.pair y (T.list D))⟩ = some ⟨102, _⟩ := rfl
    have s5 := jump_yes (lim := lim) (q := uProg) (pc := 102) (pc' := 97) (a := 14) (d := -5) (r := upd (upd (upd r 13 (r 12).head) 11 (.pair y (T.list D))) 12 (r 12).tail) rfl (by simp [upd, h14]) rfl
    obtain ⟨r', s6, a, c⟩ := un_back R (y :: D) (upd (upd (upd r 13 (r 12).head) 11 (.pair y (T.list D))) 12 (r 12).tail)
      (by simp [upd, T.list]) (by simp [upd, h12, T.list, T.tail]) (by simp [upd, h14]) (by rw [tot_cons]; omega)
    refine ⟨r', ?_, by rw [a]; simp, ?_⟩
    · have := sthen (sthen (sthen (sthen (sthen s1 s2) s3) s4) s5) s6
      rwa [show 1 + 1 + 1 + 1 + 1 + (5 * R.length + 2) = 5 * (y :: R).length + 2 by simp; omega] at this
    · intro j h1 h2 h3
      rw [c j h1 h2 h3]; simp [upd, h1, h2, h3]

/-- The register list with a register written. -/
def put (a : Nat) (v : T) (L : List T) : List T := (List.range a).map (fun j => L.getD j .nil) ++ v :: L.drop (a + 1)
theorem spin_eq : ∀ (n : Nat) (R D : List T), spin n R D = (((List.range n).map fun j => D.getD j .nil).reverse ++ R, D.drop n)
  | 0, R, D => by simp [spin]
  | n + 1, R, D => by
    simp only [spin, spin_eq n]
    have e : (List.range (n + 1)).map (fun j => D.getD j .nil) = D.headD .nil :: (List.range n).map (fun j => D.tail.getD j .nil) := by
      rw [List.range_succ_eq_map]
      cases D <;> simp [Function.comp_def]
    rw [e]
    cases D <;> simp
theorem put_get (a : Nat) (v : T) (L : List T) (j : Nat) : (put a v L).getD j .nil = if j = a then v else L.getD j .nil := by
  unfold put
  simp only [List.getD_eq_getElem?_getD]
  rcases Nat.lt_trichotomy j a with h | h | h
  · rw [List.getElem?_append_left (by simpa using h), if_neg (by omega)]; simp [h]
  · subst h; rw [List.getElem?_append_right (by simp), if_pos rfl]; simp
  · rw [List.getElem?_append_right (by simp; omega), if_neg (by omega)]
    obtain ⟨d, rfl⟩ : ∃ d, j = a + 1 + d := ⟨j - a - 1, by omega⟩
    simp [show a + 1 + d - a = d + 1 by omega]
theorem put_length (a : Nat) (v : T) (L : List T) : (put a v L).length = max L.length (a + 1) := by
  simp [put]; omega
end
end Go.Proofs.Ytgbieakahgkkpaa
