/- The universal program runs whatever program: whole runs. Plain Lean. -/
import Derived.Test.YtgbieakahgkkpaaUniD
namespace Go.Proofs.Ytgbieakahgkkpaa

theorem steps_prefix {q : List I} {m n : Nat} {s t : St} (h : steps q m s = some t) (hn : n ≤ m) : ∃ u, steps q n s = some u := by
  obtain ⟨d, rfl⟩ : ∃ d, m = n + d := ⟨m - n, by omega⟩
  rw [steps_add] at h
  cases hs : steps q n s with
  | none => rw [hs] at h; cases h
  | some u => exact ⟨u, rfl⟩
theorem play_at {q : List I} {F m : Nat} {s t : St} (h : steps q m s = some t) (ht : t.pc = q.length) (hm : m ≤ F) : play q F 0 s = .ended (t.r 0) m :=
  (play_ended _ _ _ _ _ _).2 ⟨m, t, hm, by omega, h, ht, rfl⟩
theorem play_large (q : List I) : ∀ (j F k : Nat) (s u : St), steps q j s = some u → step q u = none → u.pc < q.length → j < F → play q F k s = .large (k + j)
  | 0, 0, _, _, _, _, _, _, hj => by omega
  | 0, F + 1, k, s, u, h, hs, hp, _ => by
    simp only [steps, Option.some.injEq] at h; subst h
    unfold play
    rw [if_neg (by omega)]
    simp only [hs]; rfl
  | j + 1, 0, _, _, _, _, _, _, hj => by omega
  | j + 1, F + 1, k, s, u, h, hs, hp, hj => by
    simp only [steps] at h
    cases hst : step q s with
    | none => rw [hst] at h; cases h
    | some v =>
      rw [hst] at h
      unfold play
      rw [if_neg (fun e => by rw [step_end e] at hst; cases hst)]
      simp only [hst]
      rw [play_large q j F (k + 1) v u h hs hp (by omega)]
      congr 1; omega
theorem play_more (q : List I) : ∀ (F k : Nat) (s t : St), steps q F s = some t → t.pc ≠ q.length → play q F k s = .going (k + F)
  | 0, k, s, t, h, hp => by
    simp only [steps, Option.some.injEq] at h; subst h
    unfold play; rw [if_neg hp]; rfl
  | F + 1, k, s, t, h, hp => by
    simp only [steps] at h
    cases hst : step q s with
    | none => rw [hst] at h; cases h
    | some v =>
      rw [hst] at h
      unfold play
      rw [if_neg (fun e => by rw [step_end e] at hst; cases hst)]
      simp only [hst]
      rw [play_more q F (k + 1) v t h hp]
      congr 1; omega

theorem uProg_len : uProg.length = 129 := by decide +kernel
section
variable {lim S : Nat} {q : List I} {x : T}

theorem sim_start (hx : x.size + 1 < lim) : ∃ r, stepsL lim uProg 5 (first (.pair (codeT q) x)) = some ⟨5, r⟩ ∧ Sim q (first x) r [x] := by
  have s1 : stepsL lim uProg 3 (first (.pair (codeT q) x)) = some ⟨3, upd (upd (upd (first (.pair (codeT q) x)).r 1 (codeT q)) 8 x) 2 (codeT q)⟩ := rfl
  have s2 := cons_yes (lim := lim) (q := uProg) (pc := 3) (a := 4) (b := 8) (c := 4) (r := upd (upd (upd (first (.pair (codeT q) x)).r 1 (codeT q)) 8 x) 2 (codeT q)) rfl (by simp [upd, first, T.size]; omega)
  have s3 : stepsL lim uProg 1 ⟨4, upd (upd (upd (upd (first (.pair (codeT q) x)).r 1 (codeT q)) 8 x) 2 (codeT q)) 4 (.pair (upd (upd (upd (first (.pair (codeT q) x)).r 1 (codeT q)) 8 x) 2 (codeT q) 8) (upd (upd (upd (first (.pair (codeT q) x)).r 1 (codeT q)) 8 x) 2 (codeT q) 4))⟩ = some ⟨5, _⟩ := rfl
  refine ⟨_, sgo (sgo s1 s2 rfl) s3 rfl, ?_, ?_, ?_, ?_, ?_, ?_, ?_⟩
  · simp [upd]
  · simp [upd, first]
  · simp [upd, first, T.nm]
  · simp [upd, first, T.list]
  · simp [upd]
  · intro j hj
    cases j with
    | zero => simp [first]
    | succ j => simp [first]
  · simp

theorem stepsL_snoc {lim k : Nat} {q : List I} {s t : St} (h : stepsL lim q (k + 1) s = some t) : ∃ u, stepsL lim q k s = some u ∧ stepL lim q u = some t := by
  rw [stepsL_add] at h
  cases hs : stepsL lim q k s with
  | none => rw [hs] at h; cases h
  | some u =>
    rw [hs] at h
    refine ⟨u, rfl, ?_⟩
    simp only [Option.bind, stepsL] at h
    cases hu : stepL lim q u with
    | none => rw [hu] at h; cases h
    | some v => rw [hu] at h; exact h

theorem sim_runs (hw : WF q) {lim' : Nat} (hl : 2 * S + 200 ≤ lim) (hq : 2 * q.length + 10 ≤ lim) : ∀ (k : Nat) (s : St), stepsL lim' q k (first x) = some s →
    (∀ i ≤ k, ∀ t, stepsL lim' q i (first x) = some t → sumR t.r ≤ S) → ∃ m r L, k ≤ m ∧ m ≤ 5 + k * cost q ∧ stepsL lim uProg m (first (.pair (codeT q) x)) = some ⟨5, r⟩ ∧ Sim q s r L
  | 0, s, h, hS => by
    have h0 := hS 0 (Nat.le_refl _) _ rfl
    have h1 := size_le_sumR (r := (first x).r) (a := 0) (by omega)
    have h2 : ((first x).r 0) = x := by simp [first]
    rw [h2] at h1
    obtain ⟨r, h3, h4⟩ := sim_start (q := q) (x := x) (lim := lim) (by omega)
    simp only [stepsL, Option.some.injEq] at h; subst h
    exact ⟨5, r, [x], by omega, by omega, h3, h4⟩
  | k + 1, s, h, hS => by
    obtain ⟨u, hu, hst⟩ := stepsL_snoc h
    obtain ⟨m, r, L, h1, h2, h3, h4⟩ := sim_runs hw hl hq k u hu (fun i hi => hS i (by omega))
    obtain ⟨m', r', L', h5, h6, h7, h8⟩ := sim_step (S := S) h4 hw hst (hS k (by omega) _ hu) (hS (k + 1) (Nat.le_refl _) _ h) hl hq
    exact ⟨m + m', r', L', by omega, by rw [Nat.succ_mul]; omega, sthen h3 h7, h8⟩

/-- Some bound holds for as many states. -/
theorem some_bound (q : List I) (lim : Nat) (s : St) : ∀ k, ∃ S, ∀ i ≤ k, ∀ t, stepsL lim q i s = some t → sumR t.r ≤ S
  | 0 => ⟨sumR s.r, fun i hi t h => by obtain rfl : i = 0 := by omega
                                       simp only [stepsL, Option.some.injEq] at h; subst h; exact Nat.le_refl _⟩
  | k + 1 => by
    obtain ⟨S, hS⟩ := some_bound q lim s k
    cases hs : stepsL lim q (k + 1) s with
    | none => exact ⟨S, fun i hi t h => by
        rcases Nat.lt_or_ge i (k + 1) with h' | h'
        · exact hS i (by omega) t h
        · obtain rfl : i = k + 1 := by omega
          rw [hs] at h; cases h⟩
    | some u => exact ⟨max S (sumR u.r), fun i hi t h => by
        rcases Nat.lt_or_ge i (k + 1) with h' | h'
        · have := hS i (by omega) t h; omega
        · obtain rfl : i = k + 1 := by omega
          rw [hs] at h; cases h; omega⟩

theorem cost_le (n k : Nat) : 5 + k * (900 + 10 * n) + 3 ≤ 100 * (n + 40) * (k + 1) := by
  have h1 : k * (900 + 10 * n) ≤ k * (100 * (n + 40)) := Nat.mul_le_mul_left _ (by omega)
  have h2 : 100 * (n + 40) * (k + 1) = k * (100 * (n + 40)) + 100 * (n + 40) := by rw [Nat.mul_add, Nat.mul_one, Nat.mul_comm]
  omega

theorem univ_ended_L (hw : WF q) {lim' k : Nat} {s : St} (hl : 2 * S + 200 ≤ lim) (hq : 2 * q.length + 10 ≤ lim) (h : stepsL lim' q k (first x) = some s) (he : s.pc = q.length)
    (hS : ∀ i ≤ k, ∀ t, stepsL lim' q i (first x) = some t → sumR t.r ≤ S) : ∃ m t, m ≤ 100 * (q.length + 40) * (k + 1) ∧ stepsL lim uProg m (first (.pair (codeT q) x)) = some t ∧ t.pc = uProg.length ∧ t.r 0 = s.r 0 := by
  obtain ⟨m, r, L, h1, h2, h3, h4⟩ := sim_runs hw hl hq k s h hS
  have hn : r 2 = .nil := by rw [h4.w2, he]; simp [codeT, T.list]
  obtain ⟨r', h5, h6⟩ := un_end (lim := lim) hn h4.w14
  refine ⟨m + 3, ⟨129, r'⟩, ?_, sthen h3 h5, rfl, ?_⟩
  · have := cost_le q.length k; unfold cost at h2; omega
  · show r' 0 = _
    rw [h6, h4.w4, T.list_head]
    have := h4.reg 0 (by omega)
    rw [← this]
    cases L <;> rfl

/-- What the universal program does on the code of a program that ends: it returns the same in time, or comes to a step that is too large; the latter not where the registers stay small. -/
theorem univ_ended (hw : WF q) (hq : q.length ≤ 4000) {f k F : Nat} {y : T} (hp : play q f 0 (first x) = .ended y k) (hF : 100 * (q.length + 40) * (k + 1) ≤ F) :
    (∃ m, m ≤ 100 * (q.length + 40) * (k + 1) ∧ play uProg F 0 (first (.pair (codeT q) x)) = .ended y m) ∨ (∃ j, play uProg F 0 (first (.pair (codeT q) x)) = .large j) := by
  obtain ⟨m0, s, hm0, e, hs, hpc, rfl⟩ := (play_ended _ _ _ _ _ _).1 hp
  obtain rfl : k = m0 := by omega
  rw [← stepsL_max] at hs
  obtain ⟨S, hS⟩ := some_bound q MaxT (first x) k
  obtain ⟨m, t, h1, h2, h3, h4⟩ := univ_ended_L (lim := 2 * S + 200 + 8010 + MaxT) hw (by omega) (by omega) hs hpc hS
  rcases stepsL_narrow (lim := MaxT) (by omega) m h2 with h | ⟨j, u, hj, hu, hn, hl⟩
  · left
    rw [stepsL_max] at h
    refine ⟨m, h1, ?_⟩
    rw [play_at h h3 (by omega), h4]
  · right
    rw [stepsL_max] at hu
    rw [stepL_max] at hn
    exact ⟨_, play_large uProg j F 0 _ u hu hn hl (by omega)⟩
theorem univ_small (hw : WF q) (hq : q.length ≤ 4000) {f k F : Nat} {y : T} (hp : play q f 0 (first x) = .ended y k) (hF : 100 * (q.length + 40) * (k + 1) ≤ F) (hS : ∀ i ≤ k, ∀ t, steps q i (first x) = some t → sumR t.r ≤ 900000) :
    ∃ m, m ≤ 100 * (q.length + 40) * (k + 1) ∧ play uProg F 0 (first (.pair (codeT q) x)) = .ended y m := by
  obtain ⟨m0, s, hm0, e, hs, hpc, rfl⟩ := (play_ended _ _ _ _ _ _).1 hp
  obtain rfl : k = m0 := by omega
  rw [← stepsL_max] at hs
  obtain ⟨m, t, h1, h2, h3, h4⟩ := univ_ended_L (S := 900000) (lim := MaxT) (lim' := MaxT) hw (by decide) (by unfold MaxT; omega) hs hpc (fun i hi t ht => hS i hi t (by rwa [stepsL_max] at ht))
  rw [stepsL_max] at h2
  exact ⟨m, h1, by rw [play_at h2 h3 (by omega), h4]⟩

/-- A program that never ends. -/
theorem univ_never (hw : WF q) (hq : q.length ≤ 4000) (F : Nat) (hn : ∀ k, ∃ s, steps q k (first x) = some s) : play uProg F 0 (first (.pair (codeT q) x)) = .going F ∨ ∃ j, play uProg F 0 (first (.pair (codeT q) x)) = .large j := by
  obtain ⟨s, hs⟩ := hn F
  rw [← stepsL_max] at hs
  obtain ⟨S, hS⟩ := some_bound q MaxT (first x) F
  obtain ⟨m, r, L, h1, h2, h3, h4⟩ := sim_runs (lim := 2 * S + 200 + 8010 + MaxT) hw (by omega) (by omega) F s hs hS
  obtain ⟨d, rfl⟩ : ∃ d, m = F + d := ⟨m - F, by omega⟩
  have hpre : ∃ t, stepsL (2 * S + 200 + 8010 + MaxT) uProg F (first (.pair (codeT q) x)) = some t ∧ stepsL (2 * S + 200 + 8010 + MaxT) uProg d t = some ⟨5, r⟩ := by
    rw [stepsL_add] at h3
    cases ht : stepsL (2 * S + 200 + 8010 + MaxT) uProg F (first (.pair (codeT q) x)) with
    | none => rw [ht] at h3; cases h3
    | some t => rw [ht] at h3; exact ⟨t, rfl, h3⟩
  obtain ⟨t, ht, hd⟩ := hpre
  have hpc : t.pc ≠ uProg.length := by
    intro e
    cases d with
    | zero => simp only [stepsL, Option.some.injEq] at hd; subst hd; exact absurd e (by rw [uProg_len]; simp)
    | succ d =>
      simp only [stepsL] at hd
      have : stepL (2 * S + 200 + 8010 + MaxT) uProg t = none := by unfold stepL; rw [List.getElem?_eq_none (by omega)]
      rw [this] at hd; cases hd
  rcases stepsL_narrow (lim := MaxT) (by omega) F ht with h | ⟨j, u, hj, hu, hn, hl⟩
  · left
    rw [stepsL_max] at h
    have := play_more uProg F 0 _ t h hpc
    rwa [Nat.zero_add] at this
  · right
    rw [stepsL_max] at hu
    rw [stepL_max] at hn
    exact ⟨_, play_large uProg j F 0 _ u hu hn hl (by omega)⟩
theorem univ_never_small (hw : WF q) (hq : q.length ≤ 4000) (F : Nat) (hn : ∀ k, ∃ s, steps q k (first x) = some s ∧ sumR s.r ≤ 900000) : play uProg F 0 (first (.pair (codeT q) x)) = .going F := by
  obtain ⟨s, hs, _⟩ := hn F
  rw [← stepsL_max] at hs
  obtain ⟨m, r, L, h1, h2, h3, h4⟩ := sim_runs (S := 900000) (lim := MaxT) (lim' := MaxT) hw (by decide) (by unfold MaxT; omega) F s hs (fun i hi t ht => by
    obtain ⟨t', ht', hb⟩ := hn i
    rw [stepsL_max, ht'] at ht; cases ht; exact hb)
  rw [stepsL_max] at h3
  obtain ⟨d, rfl⟩ : ∃ d, m = F + d := ⟨m - F, by omega⟩
  rw [steps_add] at h3
  cases ht : steps uProg F (first (.pair (codeT q) x)) with
  | none => rw [ht] at h3; cases h3
  | some t =>
    rw [ht] at h3
    have hpc : t.pc ≠ uProg.length := by
      intro e
      cases d with
      | zero => simp only [Option.bind, steps, Option.some.injEq] at h3; subst h3; exact absurd e (by rw [uProg_len]; simp)
      | succ d => simp only [Option.bind, steps, step_end e] at h3; cases h3
    have := play_more uProg F 0 _ t ht hpc
    rwa [Nat.zero_add] at this
end
end Go.Proofs.Ytgbieakahgkkpaa
