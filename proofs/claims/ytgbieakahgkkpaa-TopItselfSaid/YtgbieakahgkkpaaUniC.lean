/- One step of a program is done by the universal program. Plain Lean. -/
import Derived.Test.YtgbieakahgkkpaaUniB
namespace Go.Proofs.Ytgbieakahgkkpaa

section
variable {lim : Nat} {r : Nat → T}

/-- The value is put into the list of the registers, and the next instruction is taken. -/
theorem un_store (L : List T) (a : Nat) (v : T) (p : Nat) (c : T) (h7 : r 7 = T.nm a) (h8 : r 8 = v) (h4 : r 4 = T.list L) (h14 : r 14 = tt) (h3 : r 3 = T.nm p) (h2 : r 2 = c) (hl : tot L + v.size + 2 * a + 4 ≤ lim) (hp : 2 * p + 3 ≤ lim) :
    ∃ r', stepsL lim uProg (11 * a + 15) ⟨85, r⟩ = some ⟨5, r'⟩ ∧ r' 1 = r 1 ∧ r' 2 = c.tail ∧ r' 3 = T.nm (p + 1) ∧ r' 4 = T.list (put a v L) ∧ r' 14 = tt := by
  have s1 : stepsL lim uProg 3 ⟨85, r⟩ = some ⟨88, upd (upd (upd r 11 (r 4)) 12 .nil) 10 (r 7)⟩ := rfl
  obtain ⟨r1, s2, a2, b2, c2⟩ := un_spin (lim := lim) a [] L (upd (upd (upd r 11 (r 4)) 12 .nil) 10 (r 7)) (by simp [upd, h7]) (by simp [upd, h4]) (by simp [upd, T.list]) (by simp [upd, h14]) (by simp only [tot, T.list, T.size] at hl ⊢; have := v.size_pos; omega)
  rw [spin_eq] at a2 b2
  simp only [List.append_nil] at a2 b2
  have s3 : stepsL lim uProg 1 ⟨95, r1⟩ = some ⟨96, upd r1 11 (r1 11).tail⟩ := rfl
  have e8 : upd r1 11 (r1 11).tail 8 = v := by simp [upd, c2, h8]
  have e11 : upd r1 11 (r1 11).tail 11 = T.list (L.drop (a + 1)) := by simp [upd, a2, T.list_tail]
  have hsum : ∀ (n : Nat) (D : List T), tot ((List.range n).map fun j => D.getD j .nil) + tot (D.drop n) ≤ tot D + 1 + 2 * n := by
    intro n
    induction n with
    | zero => intro D; simp [tot, T.list, T.size]; omega
    | succ n ih =>
      intro D
      have e : (List.range (n + 1)).map (fun j => D.getD j .nil) = D.headD .nil :: (List.range n).map (fun j => D.tail.getD j .nil) := by
        rw [List.range_succ_eq_map]
        cases D <;> simp [Function.comp_def]
      have e' : D.drop (n + 1) = D.tail.drop n := by cases D <;> simp
      have h1 := tot_tail D
      have h2 := ih D.tail
      rw [e, e', tot_cons]; omega
  have hrev : ∀ l : List T, tot l.reverse = tot l := by
    have app : ∀ l m : List T, tot (l ++ m) + 1 = tot l + tot m := by
      intro l m
      induction l with
      | nil => simp [tot, T.list, T.size]; omega
      | cons t l ih => rw [List.cons_append, tot_cons, tot_cons]; omega
    intro l
    induction l with
    | nil => rfl
    | cons t l ih =>
      rw [List.reverse_cons, tot_cons]
      have := app l.reverse [t]
      have e1 : tot [t] = t.size + 2 := by simp [tot, T.list, T.size]; omega
      omega
  have htd := hsum a L
  have htt := tot_tail (L.drop a)
  have etl : (L.drop a).tail = L.drop (a + 1) := by simp
  rw [etl] at htt
  have hR : tot ((List.range a).map fun j => L.getD j .nil).reverse = tot ((List.range a).map fun j => L.getD j .nil) := hrev _
  have hpos : 1 ≤ tot ((List.range a).map fun j => L.getD j .nil) := T.size_pos _
  have hhd : 1 ≤ ((L.drop a).headD .nil).size := T.size_pos _
  have s4 : stepsL lim uProg 1 ⟨96, upd r1 11 (r1 11).tail⟩ = some ⟨97, _⟩ := cons_yes rfl (by rw [e8, e11]; have : (T.list (L.drop (a + 1))).size = tot (L.drop (a + 1)) := rfl; omega)
  rw [e8, e11] at s4
  obtain ⟨r2, s5, a5, c5⟩ := un_back (lim := lim) ((List.range a).map fun j => L.getD j .nil).reverse (v :: L.drop (a + 1)) (upd (upd r1 11 (r1 11).tail) 11 (.pair v (T.list (L.drop (a + 1)))))
    (by simp [upd, T.list]) (by simp [upd, b2]) (by simp [upd, c2, h14]) (by rw [tot_cons]; omega)
  rw [List.reverse_reverse] at a5
  have s6 : stepsL lim uProg 1 ⟨103, r2⟩ = some ⟨104, upd r2 4 (r2 11)⟩ := rfl
  have e14 : r2 14 = tt := by rw [c5 14 (by omega) (by omega) (by omega)]; simp [upd, c2, h14]
  have s7 : stepsL lim uProg 1 ⟨104, upd r2 4 (r2 11)⟩ = some ⟨81, _⟩ := jump_yes rfl (by simp [upd, e14]) rfl
  have s8 : stepsL lim uProg 2 ⟨81, upd r2 4 (r2 11)⟩ = some ⟨83, _⟩ := rfl
  have k1 : r2 1 = r 1 := by rw [c5 1 (by omega) (by omega) (by omega)]; simp [upd, c2]
  have k2 : r2 2 = c := by rw [c5 2 (by omega) (by omega) (by omega)]; simp [upd, c2, h2]
  have k3 : r2 3 = T.nm p := by rw [c5 3 (by omega) (by omega) (by omega)]; simp [upd, c2, h3]
  have s9 := cons_yes (lim := lim) (q := uProg) (pc := 83) (a := 3) (b := 13) (c := 3) (r := upd (upd (upd r2 4 (r2 11)) 2 (r2 2).tail) 13 .nil) rfl (by simp [upd, k3, T.nm_size, T.size]; omega)
  have s10 := jump_yes (lim := lim) (q := uProg) (pc := 84) (pc' := 5) (a := 14) (d := -79) (r := upd (upd (upd (upd r2 4 (r2 11)) 2 (r2 2).tail) 13 .nil) 3 (.pair .nil (T.nm p))) rfl (by simp [upd, e14]) rfl
  have e9 : (T.pair (upd (upd (upd r2 4 (r2 11)) 2 (r2 2).tail) 13 .nil 13) (upd (upd (upd r2 4 (r2 11)) 2 (r2 2).tail) 13 .nil 3)) = .pair .nil (T.nm p) := by simp [upd, k3]
  rw [e9] at s9
  refine ⟨_, sgo (sgo (sgo (sgo (sgo (sgo (sgo (sgo (sgo s1 s2 rfl) s3 rfl) s4 rfl) s5 rfl) s6 rfl) s7 rfl) s8 rfl) s9 rfl) s10 (by simp; omega), ?_, ?_, ?_, ?_, ?_⟩
  · simp [upd, k1]
  · simp [upd, k2]
  · simp [upd, T.nm]
  · simp [upd, a5, put]
  · simp [upd, e14]
end

/-- The registers of a program as the universal program has them. -/
structure Sim (q : List I) (s : St) (r : Nat → T) (L : List T) : Prop where
  w1 : r 1 = codeT q
  w2 : r 2 = codeT (q.drop s.pc)
  w3 : r 3 = T.nm s.pc
  w4 : r 4 = T.list L
  w14 : r 14 = tt
  reg : ∀ j, j < 32 → L.getD j .nil = s.r j
  len : L.length ≤ 32

theorem tot_le {L : List T} {r : Nat → T} (hl : L.length ≤ 32) (h : ∀ j, j < 32 → L.getD j .nil = r j) : tot L ≤ sumR r + 33 := by
  have key : ∀ (n : Nat) (L : List T) (k : Nat), L.length ≤ n → (∀ j, j < n → L.getD j .nil = r (k + j)) → tot L ≤ ((List.range' k n).map fun i => (r i).size).sum + n + 1 := by
    intro n
    induction n with
    | zero =>
      intro L k h1 _
      have : L = [] := List.eq_nil_of_length_eq_zero (by omega)
      subst this; simp [tot, T.list, T.size]
    | succ n ih =>
      intro L k h1 h2
      rw [List.range'_succ]
      simp only [List.map_cons, List.sum_cons]
      cases L with
      | nil => simp [tot, T.list, T.size]
      | cons t L =>
        have h0 := h2 0 (by omega)
        simp at h0
        have := ih L (k + 1) (by simp at h1; omega) (fun j hj => by have := h2 (j + 1) (by omega); simp at this; simp; rw [this]; congr 1; omega)
        rw [tot_cons, h0]; omega
  have := key 32 L 0 hl (fun j hj => by rw [Nat.zero_add]; exact h j hj)
  unfold sumR
  rw [List.range_eq_range']
  omega
theorem size_le_sumR {r : Nat → T} {a : Nat} (h : a < 32) : (r a).size ≤ sumR r := by
  unfold sumR
  exact le_sum _ _ (List.mem_map.2 ⟨a, by simpa using h, rfl⟩)

/-- The result of a step that writes a register. -/
theorem Sim.write {q : List I} {s : St} {r r' : Nat → T} {L : List T} {a : Nat} {v : T} (h : Sim q s r L) (ha : a < 32) (h1 : r' 1 = r 1) (h2 : r' 2 = (codeT (q.drop s.pc)).tail) (h3 : r' 3 = T.nm (s.pc + 1)) (h4 : r' 4 = T.list (put a v L)) (h14 : r' 14 = tt) :
    Sim q ⟨s.pc + 1, upd s.r a v⟩ r' (put a v L) := by
  refine ⟨h1.trans h.w1, ?_, h3, h4, h14, ?_, ?_⟩
  · rw [h2]; unfold codeT; rw [T.list_tail]; simp
  · intro j hj
    rw [put_get]
    show _ = (if j = a then v else s.r j)
    split
    · rfl
    · exact h.reg j hj
  · rw [put_length]; have := h.len; omega
end Go.Proofs.Ytgbieakahgkkpaa
