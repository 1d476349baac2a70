/- Each kind of step, and a whole run. Plain Lean. -/
import Derived.Test.YtgbieakahgkkpaaUniC
namespace Go.Proofs.Ytgbieakahgkkpaa

theorem Sim.keep {q : List I} {s : St} {r r' : Nat → T} {L : List T} (h : Sim q s r L) (k : Keep r r') : Sim q s r' L :=
  ⟨k.1.trans h.w1, k.2.1.trans h.w2, k.2.2.1.trans h.w3, k.2.2.2.1.trans h.w4, k.2.2.2.2.trans h.w14, h.reg, h.len⟩

/-- How many steps a step costs at most. -/
def cost (q : List I) : Nat := 900 + 10 * q.length

section
variable {lim S : Nat} {q : List I} {s s' : St} {r : Nat → T} {L : List T}

/-- The value is at hand: it is stored. -/
theorem sim_store {a : Nat} {v : T} (h : Sim q s r L) (hpc : s.pc < q.length) (ha : a < 32) (h7 : r 7 = T.nm a) (h8 : r 8 = v) (hS : sumR s.r ≤ S) (hv : v.size ≤ S) (hl : 2 * S + 200 ≤ lim) (hq : 2 * q.length + 10 ≤ lim) :
    ∃ r', stepsL lim uProg (11 * a + 15) ⟨85, r⟩ = some ⟨5, r'⟩ ∧ Sim q ⟨s.pc + 1, upd s.r a v⟩ r' (put a v L) := by
  have ht := tot_le h.len h.reg
  obtain ⟨r', e, k1, k2, k3, k4, k5⟩ := un_store (lim := lim) L a v s.pc (codeT (q.drop s.pc)) h7 h8 h.w4 h.w14 h.w3 h.w2 (by omega) (by omega)
  exact ⟨r', e, h.write ha k1 k2 k3 k4 k5⟩

theorem drop_code (hpc : s.pc < q.length) : codeT (q.drop s.pc) = .pair (q[s.pc]).code (codeT (q.drop (s.pc + 1))) := by
  unfold codeT
  rw [List.drop_eq_getElem_cons hpc]; rfl

theorem un_next {p : Nat} {c : T} (h2 : r 2 = c) (h3 : r 3 = T.nm p) (h14 : r 14 = tt) (hp : 2 * p + 3 ≤ lim) : ∃ r', stepsL lim uProg 4 ⟨81, r⟩ = some ⟨5, r'⟩ ∧ r' 1 = r 1 ∧ r' 2 = c.tail ∧ r' 3 = T.nm (p + 1) ∧ r' 4 = r 4 ∧ r' 14 = tt := by
  have s8 : stepsL lim uProg 2 ⟨81, r⟩ = some ⟨83, _⟩ := rfl
  have s9 := cons_yes (lim := lim) (q := uProg) (pc := 83) (a := 3) (b := 13) (c := 3) (r := upd (upd r 2 (r 2).tail) 13 .nil) rfl (by simp [upd, h3, T.nm_size, T.size]; omega)
  have e9 : (T.pair (upd (upd r 2 (r 2).tail) 13 .nil 13) (upd (upd r 2 (r 2).tail) 13 .nil 3)) = .pair .nil (T.nm p) := by simp [upd, h3]
  rw [e9] at s9
  have s10 := jump_yes (lim := lim) (q := uProg) (pc := 84) (pc' := 5) (a := 14) (d := -79) (r := upd (upd (upd r 2 (r 2).tail) 13 .nil) 3 (.pair .nil (T.nm p))) rfl (by simp [upd, h14]) rfl
  refine ⟨_, sgo (sgo s8 s9 rfl) s10 rfl, ?_, ?_, ?_, ?_, ?_⟩ <;> simp [upd, h2, h14, T.nm]

theorem un_fwd : ∀ (n p : Nat) (l : List T) (r : Nat → T), r 10 = T.nm n → r 2 = T.list l → r 3 = T.nm p → r 14 = tt → 2 * (p + n) + 3 ≤ lim →
    ∃ r', stepsL lim uProg (6 * n + 2) ⟨108, r⟩ = some ⟨115, r'⟩ ∧ r' 1 = r 1 ∧ r' 2 = T.list (l.drop n) ∧ r' 3 = T.nm (p + n) ∧ r' 4 = r 4 ∧ r' 14 = tt
  | 0, p, l, r, h10, h2, h3, h14, hp => by
    have s1 : stepsL lim uProg 1 ⟨108, r⟩ = some ⟨109, r⟩ := jump_no rfl h10
    have s2 : stepsL lim uProg 1 ⟨109, r⟩ = some ⟨115, r⟩ := jump_yes rfl (by rw [h14]; simp) rfl
    exact ⟨r, sgo s1 s2 rfl, rfl, h2, h3, rfl, h14⟩
  | n + 1, p, l, r, h10, h2, h3, h14, hp => by
    have s1 : stepsL lim uProg 1 ⟨108, r⟩ = some ⟨110, r⟩ := jump_yes rfl (by rw [h10]; simp [T.nm]) rfl
    have s8 : stepsL lim uProg 2 ⟨110, r⟩ = some ⟨112, _⟩ := rfl
    have s9 := cons_yes (lim := lim) (q := uProg) (pc := 112) (a := 3) (b := 13) (c := 3) (r := upd (upd r 2 (r 2).tail) 13 .nil) rfl (by simp [upd, h3, T.nm_size, T.size]; omega)
    have e9 : (T.pair (upd (upd r 2 (r 2).tail) 13 .nil 13) (upd (upd r 2 (r 2).tail) 13 .nil 3)) = .pair .nil (T.nm p) := by simp [upd, h3]
    rw [e9] at s9
    have s10 : stepsL lim uProg 1 ⟨113, upd (upd (upd r 2 (r 2).tail) 13 .nil) 3 (.pair .nil (T.nm p))⟩ = some ⟨114, upd (upd (upd (upd r 2 (r 2).tail) 13 .nil) 3 (.pair .nil (T.nm p))) 10 (r 10).tail⟩ := rfl
    have s11 := jump_yes (lim := lim) (q := uProg) (pc := 114) (pc' := 108) (a := 14) (d := -6) (r := upd (upd (upd (upd r 2 (r 2).tail) 13 .nil) 3 (.pair .nil (T.nm p))) 10 (r 10).tail) rfl (by simp [upd, h14]) rfl
    obtain ⟨r', s12, a1, a2, a3, a4, a5⟩ := un_fwd n (p + 1) l.tail (upd (upd (upd (upd r 2 (r 2).tail) 13 .nil) 3 (.pair .nil (T.nm p))) 10 (r 10).tail) (by simp [upd, h10, T.nm, T.tail]) (by simp [upd, h2, T.list_tail]) (by simp [upd, T.nm]) (by simp [upd, h14]) (by omega)
    refine ⟨r', sgo (sgo (sgo (sgo (sgo s1 s8 rfl) s9 rfl) s10 rfl) s11 rfl) s12 (by omega), ?_, ?_, ?_, ?_, a5⟩
    · rw [a1]; simp [upd]
    · rw [a2]; congr 1; cases l <;> simp
    · rw [a3]; congr 1; omega
    · rw [a4]; simp [upd]

/-- One step of the program. -/
theorem sim_step (h : Sim q s r L) (hw : WF q) {lim' : Nat} (hst : stepL lim' q s = some s') (hS : sumR s.r ≤ S) (hS' : sumR s'.r ≤ S) (hl : 2 * S + 200 ≤ lim) (hq : 2 * q.length + 10 ≤ lim) :
    ∃ m r' L', 1 ≤ m ∧ m ≤ cost q ∧ stepsL lim uProg m ⟨5, r⟩ = some ⟨5, r'⟩ ∧ Sim q s' r' L' := by
  have hpc : s.pc < q.length := by
    rcases Nat.lt_or_ge s.pc q.length with h | h
    · exact h
    · unfold stepL at hst; rw [List.getElem?_eq_none h] at hst; cases hst
  have hx := List.getElem?_eq_getElem hpc
  have hwx := hw s.pc _ hx
  have hc := drop_code hpc
  unfold stepL at hst
  rw [hx] at hst
  simp only at hst
  unfold cost
  generalize hxe : q[s.pc] = x at *
  have h2 := h.w2
  rw [hc] at h2
  cases x with
  | set a t =>
    simp only [step1L, Option.some.injEq] at hst; subst hst
    simp only [wfI] at hwx
    obtain ⟨r1, s1, k1, a5, a6, a7⟩ := un_disp (lim := lim) h2
    have h' := h.keep k1
    have s2 : stepsL lim uProg 1 ⟨13, r1⟩ = some ⟨14, r1⟩ := jump_no rfl a5
    have s3 : stepsL lim uProg 1 ⟨14, r1⟩ = some ⟨15, upd r1 8 (r1 6)⟩ := rfl
    have s4 := jump_yes (lim := lim) (q := uProg) (pc := 15) (pc' := 85) (a := 14) (d := 70) (r := upd r1 8 (r1 6)) rfl (by simp [upd, h'.w14]) rfl
    have h'' : Sim q s (upd r1 8 (r1 6)) L := h'.keep ⟨rfl, rfl, rfl, rfl, rfl⟩
    have hsz := size_le_sumR (r := upd s.r a t) hwx
    simp only [upd, if_true] at hsz
    obtain ⟨r', s5, hs⟩ := sim_store (lim := lim) (S := S) (v := t) h'' hpc hwx (by simp [upd, a7]) (by simp [upd, a6]) hS (Nat.le_trans hsz hS') hl hq
    exact ⟨_, r', _, by omega, by omega, sgo (sgo (sgo (sgo s1 s2 rfl) s3 rfl) s4 rfl) s5 rfl, hs⟩
  | move a b =>
    simp only [step1L, Option.some.injEq] at hst; subst hst
    simp only [wfI] at hwx
    obtain ⟨r1, s1, k1, a5, a6, a7⟩ := un_disp (lim := lim) h2
    have h' := h.keep k1
    obtain ⟨r2, s2, b5, bb⟩ := un_kind (lim := lim) (P := 13) (L := 16) (d := 3) rfl rfl rfl a5
    have s3 : stepsL lim uProg 1 ⟨17, r2⟩ = some ⟨18, r2⟩ := jump_no rfl b5
    have s4 : stepsL lim uProg 1 ⟨18, r2⟩ = some ⟨19, upd r2 10 (r2 6)⟩ := rfl
    have h'' : Sim q s (upd r2 10 (r2 6)) L := h'.keep ⟨by simp [upd, bb], by simp [upd, bb], by simp [upd, bb], by simp [upd, bb], by simp [upd, bb]⟩
    obtain ⟨r3, s5, c8, c⟩ := un_fetch (lim := lim) (P := 19) (to := 8) L b rfl rfl rfl rfl rfl rfl rfl h''.w4 (by simp [upd, bb, a6]) h''.w14
    have h3 : Sim q s r3 L := h''.keep ⟨c _ (by omega) (by omega) (by omega), c _ (by omega) (by omega) (by omega), c _ (by omega) (by omega) (by omega), c _ (by omega) (by omega) (by omega), c _ (by omega) (by omega) (by omega)⟩
    have s6 := jump_yes (lim := lim) (q := uProg) (pc := 26) (pc' := 85) (a := 14) (d := 59) (r := r3) rfl (by rw [h3.w14]; simp) rfl
    rw [h.reg b hwx.2] at c8
    obtain ⟨r', s7, hs⟩ := sim_store (lim := lim) (S := S) (v := s.r b) h3 hpc hwx.1 (by rw [c 7 (by omega) (by omega) (by omega)]; simp [upd, bb, a7]) c8 hS (by have := size_le_sumR (r := s.r) hwx.2; omega) hl hq
    exact ⟨_, r', _, by omega, by omega, sgo (sgo (sgo (sgo (sgo (sgo s1 s2 rfl) s3 rfl) s4 rfl) s5 rfl) s6 rfl) s7 rfl, hs⟩
  | cons a b c =>
    simp only [step1L] at hst
    split at hst
    case isFalse => cases hst
    simp only [Option.some.injEq] at hst; subst hst
    simp only [wfI] at hwx
    obtain ⟨r1, s1, k1, a5, a6, a7⟩ := un_disp (lim := lim) h2
    have h' := h.keep k1
    obtain ⟨r2, s2, b5, bb⟩ := un_kind (lim := lim) (P := 13) (L := 16) (d := 3) rfl rfl rfl a5
    obtain ⟨r3, s3, c5, cc⟩ := un_kind (lim := lim) (P := 17) (L := 27) (d := 10) rfl rfl rfl b5
    have s4 : stepsL lim uProg 1 ⟨28, r3⟩ = some ⟨29, r3⟩ := jump_no rfl c5
    have s5 : stepsL lim uProg 1 ⟨29, r3⟩ = some ⟨30, upd r3 10 (r3 6).head⟩ := rfl
    have h'' : Sim q s (upd r3 10 (r3 6).head) L := h'.keep ⟨by simp [upd, bb, cc], by simp [upd, bb, cc], by simp [upd, bb, cc], by simp [upd, bb, cc], by simp [upd, bb, cc]⟩
    obtain ⟨r4, s6, d8, d⟩ := un_fetch (lim := lim) (P := 30) (to := 9) L b rfl rfl rfl rfl rfl rfl rfl h''.w4 (by simp [upd, bb, cc, a6, T.head]) h''.w14
    have h4 : Sim q s r4 L := h''.keep ⟨d _ (by omega) (by omega) (by omega), d _ (by omega) (by omega) (by omega), d _ (by omega) (by omega) (by omega), d _ (by omega) (by omega) (by omega), d _ (by omega) (by omega) (by omega)⟩
    have d6 : r4 6 = .pair (T.nm b) (T.nm c) := by rw [d 6 (by omega) (by omega) (by omega)]; simp [upd, bb, cc, a6]
    have d7 : r4 7 = T.nm a := by rw [d 7 (by omega) (by omega) (by omega)]; simp [upd, bb, cc, a7]
    have s7 : stepsL lim uProg 1 ⟨37, r4⟩ = some ⟨38, upd r4 10 (r4 6).tail⟩ := rfl
    have h5 : Sim q s (upd r4 10 (r4 6).tail) L := h4.keep ⟨rfl, rfl, rfl, rfl, rfl⟩
    obtain ⟨r5, s8, f8, f⟩ := un_fetch (lim := lim) (P := 38) (to := 8) L c rfl rfl rfl rfl rfl rfl rfl h5.w4 (by simp [upd, d6, T.tail]) h5.w14
    have h6 : Sim q s r5 L := h5.keep ⟨f _ (by omega) (by omega) (by omega), f _ (by omega) (by omega) (by omega), f _ (by omega) (by omega) (by omega), f _ (by omega) (by omega) (by omega), f _ (by omega) (by omega) (by omega)⟩
    rw [h.reg c hwx.2.2] at f8
    have f9 : r5 9 = s.r b := by rw [f 9 (by omega) (by omega) (by omega)]; simp [upd, d8]; have := h.reg b hwx.2.1; simpa using this
    have f7 : r5 7 = T.nm a := by rw [f 7 (by omega) (by omega) (by omega)]; simp [upd, d7]
    have hsz := size_le_sumR (r := upd s.r a (.pair (s.r b) (s.r c))) hwx.1
    simp only [upd, if_true] at hsz
    have hsz' := Nat.le_trans hsz hS'
    have s9 := cons_yes (lim := lim) (q := uProg) (pc := 45) (a := 8) (b := 9) (c := 8) (r := r5) rfl (by rw [f9, f8]; simp only [T.size] at hsz'; omega)
    rw [f9, f8] at s9
    have h7 : Sim q s (upd r5 8 (.pair (s.r b) (s.r c))) L := h6.keep ⟨rfl, rfl, rfl, rfl, rfl⟩
    have s10 := jump_yes (lim := lim) (q := uProg) (pc := 46) (pc' := 85) (a := 14) (d := 39) (r := upd r5 8 (.pair (s.r b) (s.r c))) rfl (by rw [h7.w14]; simp) rfl
    obtain ⟨r', s11, hs⟩ := sim_store (lim := lim) (S := S) (v := .pair (s.r b) (s.r c)) h7 hpc hwx.1 (by simp [upd, f7]) (by simp [upd]) hS hsz' hl hq
    exact ⟨_, r', _, by omega, by omega, sgo (sgo (sgo (sgo (sgo (sgo (sgo (sgo (sgo (sgo s1 s2 rfl) s3 rfl) s4 rfl) s5 rfl) s6 rfl) s7 rfl) s8 rfl) s9 rfl) s10 rfl) s11 rfl, hs⟩
  | head a b =>
    simp only [step1L, Option.some.injEq] at hst; subst hst
    simp only [wfI] at hwx
    obtain ⟨r1, s1, k1, a5, a6, a7⟩ := un_disp (lim := lim) h2
    have h' := h.keep k1
    obtain ⟨r2, s2, b5, bb⟩ := un_kind (lim := lim) (P := 13) (L := 16) (d := 3) rfl rfl rfl a5
    obtain ⟨r3, s3, c5, cc⟩ := un_kind (lim := lim) (P := 17) (L := 27) (d := 10) rfl rfl rfl b5
    obtain ⟨r4, s4, d5, dd⟩ := un_kind (lim := lim) (P := 28) (L := 47) (d := 19) rfl rfl rfl c5
    have s5 : stepsL lim uProg 1 ⟨48, r4⟩ = some ⟨49, r4⟩ := jump_no rfl d5
    have s6 : stepsL lim uProg 1 ⟨49, r4⟩ = some ⟨50, upd r4 10 (r4 6)⟩ := rfl
    have h'' : Sim q s (upd r4 10 (r4 6)) L := h'.keep ⟨by simp [upd, bb, cc, dd], by simp [upd, bb, cc, dd], by simp [upd, bb, cc, dd], by simp [upd, bb, cc, dd], by simp [upd, bb, cc, dd]⟩
    obtain ⟨r5, s7, f8, f⟩ := un_fetch (lim := lim) (P := 50) (to := 8) L b rfl rfl rfl rfl rfl rfl rfl h''.w4 (by simp [upd, bb, cc, dd, a6]) h''.w14
    have h6 : Sim q s r5 L := h''.keep ⟨f _ (by omega) (by omega) (by omega), f _ (by omega) (by omega) (by omega), f _ (by omega) (by omega) (by omega), f _ (by omega) (by omega) (by omega), f _ (by omega) (by omega) (by omega)⟩
    rw [h.reg b hwx.2] at f8
    have s8 : stepsL lim uProg 1 ⟨57, r5⟩ = some ⟨58, upd r5 8 (r5 8).head⟩ := rfl
    rw [f8] at s8
    have h7 : Sim q s (upd r5 8 (s.r b).head) L := h6.keep ⟨rfl, rfl, rfl, rfl, rfl⟩
    have s9 := jump_yes (lim := lim) (q := uProg) (pc := 58) (pc' := 85) (a := 14) (d := 27) (r := upd r5 8 (s.r b).head) rfl (by rw [h7.w14]; simp) rfl
    have f7 : r5 7 = T.nm a := by rw [f 7 (by omega) (by omega) (by omega)]; simp [upd, bb, cc, dd, a7]
    obtain ⟨r', s10, hs⟩ := sim_store (lim := lim) (S := S) (v := (s.r b).head) h7 hpc hwx.1 (by simp [upd, f7]) (by simp [upd]) hS (by have := size_le_sumR (r := s.r) hwx.2; have := (s.r b).head_size; omega) hl hq
    exact ⟨_, r', _, by omega, by omega, sgo (sgo (sgo (sgo (sgo (sgo (sgo (sgo (sgo s1 s2 rfl) s3 rfl) s4 rfl) s5 rfl) s6 rfl) s7 rfl) s8 rfl) s9 rfl) s10 rfl, hs⟩
  | tail a b =>
    simp only [step1L, Option.some.injEq] at hst; subst hst
    simp only [wfI] at hwx
    obtain ⟨r1, s1, k1, a5, a6, a7⟩ := un_disp (lim := lim) h2
    have h' := h.keep k1
    obtain ⟨r2, s2, b5, bb⟩ := un_kind (lim := lim) (P := 13) (L := 16) (d := 3) rfl rfl rfl a5
    obtain ⟨r3, s3, c5, cc⟩ := un_kind (lim := lim) (P := 17) (L := 27) (d := 10) rfl rfl rfl b5
    obtain ⟨r4, s4, d5, dd⟩ := un_kind (lim := lim) (P := 28) (L := 47) (d := 19) rfl rfl rfl c5
    obtain ⟨r40, s40, e5, ee⟩ := un_kind (lim := lim) (P := 48) (L := 59) (d := 11) rfl rfl rfl d5
    have s5 : stepsL lim uProg 1 ⟨60, r40⟩ = some ⟨61, r40⟩ := jump_no rfl e5
    have s6 : stepsL lim uProg 1 ⟨61, r40⟩ = some ⟨62, upd r40 10 (r40 6)⟩ := rfl
    have h'' : Sim q s (upd r40 10 (r40 6)) L := h'.keep ⟨by simp [upd, bb, cc, dd, ee], by simp [upd, bb, cc, dd, ee], by simp [upd, bb, cc, dd, ee], by simp [upd, bb, cc, dd, ee], by simp [upd, bb, cc, dd, ee]⟩
    obtain ⟨r5, s7, f8, f⟩ := un_fetch (lim := lim) (P := 62) (to := 8) L b rfl rfl rfl rfl rfl rfl rfl h''.w4 (by simp [upd, bb, cc, dd, ee, a6]) h''.w14
    have h6 : Sim q s r5 L := h''.keep ⟨f _ (by omega) (by omega) (by omega), f _ (by omega) (by omega) (by omega), f _ (by omega) (by omega) (by omega), f _ (by omega) (by omega) (by omega), f _ (by omega) (by omega) (by omega)⟩
    rw [h.reg b hwx.2] at f8
    have s8 : stepsL lim uProg 1 ⟨69, r5⟩ = some ⟨70, upd r5 8 (r5 8).tail⟩ := rfl
    rw [f8] at s8
    have h7 : Sim q s (upd r5 8 (s.r b).tail) L := h6.keep ⟨rfl, rfl, rfl, rfl, rfl⟩
    have s9 := jump_yes (lim := lim) (q := uProg) (pc := 70) (pc' := 85) (a := 14) (d := 15) (r := upd r5 8 (s.r b).tail) rfl (by rw [h7.w14]; simp) rfl
    have f7 : r5 7 = T.nm a := by rw [f 7 (by omega) (by omega) (by omega)]; simp [upd, bb, cc, dd, ee, a7]
    obtain ⟨r', s10, hs⟩ := sim_store (lim := lim) (S := S) (v := (s.r b).tail) h7 hpc hwx.1 (by simp [upd, f7]) (by simp [upd]) hS (by have := size_le_sumR (r := s.r) hwx.2; have := (s.r b).tail_size; omega) hl hq
    exact ⟨_, r', _, by omega, by omega, sgo (sgo (sgo (sgo (sgo (sgo (sgo (sgo (sgo (sgo s1 s2 rfl) s3 rfl) s4 rfl) s40 rfl) s5 rfl) s6 rfl) s7 rfl) s8 rfl) s9 rfl) s10 rfl, hs⟩
  | jump a d =>
    simp only [step1L, Option.some.injEq] at hst; subst hst
    simp only [wfI] at hwx
    obtain ⟨r1, s1, k1, a5, a6, a7⟩ := un_disp (lim := lim) h2
    have h' := h.keep k1
    obtain ⟨r2, s2, b5, bb⟩ := un_kind (lim := lim) (P := 13) (L := 16) (d := 3) rfl rfl rfl a5
    obtain ⟨r3, s3, c5, cc⟩ := un_kind (lim := lim) (P := 17) (L := 27) (d := 10) rfl rfl rfl b5
    obtain ⟨r4, s4, d5, dd⟩ := un_kind (lim := lim) (P := 28) (L := 47) (d := 19) rfl rfl rfl c5
    obtain ⟨r40, s40, e5, ee⟩ := un_kind (lim := lim) (P := 48) (L := 59) (d := 11) rfl rfl rfl d5
    obtain ⟨r41, s41, g5, gg⟩ := un_kind (lim := lim) (P := 60) (L := 71) (d := 11) rfl rfl rfl e5
    have s6 : stepsL lim uProg 1 ⟨72, r41⟩ = some ⟨73, upd r41 10 (r41 7)⟩ := rfl
    have h'' : Sim q s (upd r41 10 (r41 7)) L := h'.keep ⟨by simp [upd, bb, cc, dd, ee, gg], by simp [upd, bb, cc, dd, ee, gg], by simp [upd, bb, cc, dd, ee, gg], by simp [upd, bb, cc, dd, ee, gg], by simp [upd, bb, cc, dd, ee, gg]⟩
    obtain ⟨r5, s7, f8, f⟩ := un_fetch (lim := lim) (P := 73) (to := 8) L a rfl rfl rfl rfl rfl rfl rfl h''.w4 (by simp [upd, bb, cc, dd, ee, gg, a7]) h''.w14
    have h6 : Sim q s r5 L := h''.keep ⟨f _ (by omega) (by omega) (by omega), f _ (by omega) (by omega) (by omega), f _ (by omega) (by omega) (by omega), f _ (by omega) (by omega) (by omega), f _ (by omega) (by omega) (by omega)⟩
    rw [h.reg a hwx.1] at f8
    have f6 : r5 6 = (if d < 0 then .pair (T.nm 1) (T.nm (-d).toNat) else .pair .nil (T.nm d.toNat)) := by rw [f 6 (by omega) (by omega) (by omega)]; simp [upd, bb, cc, dd, ee, gg, a6]
    have S0 := sgo (sgo (sgo (sgo (sgo (sgo (sgo s1 s2 rfl) s3 rfl) s4 rfl) s40 rfl) s41 rfl) s6 rfl) s7 rfl
    by_cases hn : s.r a = .nil
    · rw [if_pos hn]
      have s8 : stepsL lim uProg 1 ⟨80, r5⟩ = some ⟨81, r5⟩ := jump_no rfl (by rw [f8, hn])
      obtain ⟨r', s9, n1, n2, n3, n4, n14⟩ := un_next (lim := lim) h6.w2 h6.w3 h6.w14 (by omega)
      refine ⟨_, r', L, ?_, ?_, sgo (sgo S0 s8 rfl) s9 rfl, ⟨n1.trans h6.w1, ?_, n3, n4.trans h6.w4, n14, h.reg, h.len⟩⟩
      · omega
      · omega
      · rw [n2]; unfold codeT; rw [T.list_tail]; simp
    · rw [if_neg hn]
      have s8 : stepsL lim uProg 1 ⟨80, r5⟩ = some ⟨105, r5⟩ := jump_yes rfl (by rw [f8]; exact hn) rfl
      have s9 : stepsL lim uProg 2 ⟨105, r5⟩ = some ⟨107, upd (upd r5 13 (r5 6).head) 10 (r5 6).tail⟩ := rfl
      by_cases hd : d < 0
      · rw [if_pos hd] at f6
        rw [f6] at s9
        simp only [T.head, T.tail] at s9
        have s10 := jump_yes (lim := lim) (q := uProg) (pc := 107) (pc' := 116) (a := 13) (d := 9) (r := upd (upd r5 13 (T.nm 1)) 10 (T.nm (-d).toNat)) rfl (by simp [upd, T.nm]) rfl
        obtain ⟨r6, s11, b3, b⟩ := un_count (lim := lim) (P := 116) (x := 3) (by omega) (by omega) rfl rfl rfl rfl rfl (-d).toNat (upd (upd r5 13 (T.nm 1)) 10 (T.nm (-d).toNat)) (by simp [upd]) (by simp [upd, h6.w14])
        have b3' : r6 3 = T.nm (s.pc - (-d).toNat) := by rw [b3]; simp [upd, h6.w3, T.tl_nm]
        have s12 : stepsL lim uProg 2 ⟨121, r6⟩ = some ⟨123, upd (upd r6 2 (r6 1)) 10 (r6 3)⟩ := rfl
        have e1 : r6 1 = codeT q := by rw [b 1 (by omega) (by omega)]; simp [upd, h6.w1]
        have e4 : r6 4 = T.list L := by rw [b 4 (by omega) (by omega)]; simp [upd, h6.w4]
        have e14 : r6 14 = tt := by rw [b 14 (by omega) (by omega)]; simp [upd, h6.w14]
        obtain ⟨r7, s13, c2, c⟩ := un_count (lim := lim) (P := 123) (x := 2) (by omega) (by omega) rfl rfl rfl rfl rfl (s.pc - (-d).toNat) (upd (upd r6 2 (r6 1)) 10 (r6 3)) (by simp [upd, b3']) (by simp [upd, e14])
        have s14 := jump_yes (lim := lim) (q := uProg) (pc := 128) (pc' := 5) (a := 14) (d := -123) (r := r7) rfl (by rw [c 14 (by omega) (by omega)]; simp [upd, e14]) rfl
        have epc : ((s.pc : Int) + d).toNat = s.pc - (-d).toNat := by omega
        refine ⟨_, r7, L, ?_, ?_, sgo (sgo (sgo (sgo (sgo (sgo (sgo S0 s8 rfl) s9 rfl) s10 rfl) s11 rfl) s12 rfl) s13 rfl) s14 rfl, ⟨?_, ?_, ?_, ?_, ?_, h.reg, h.len⟩⟩
        · omega
        · omega
        · rw [c 1 (by omega) (by omega)]; simp [upd, e1]
        · rw [c2]; simp only [epc]; simp only [upd, if_true]; simp [e1, codeT, T.tl_list]
        · rw [c 3 (by omega) (by omega)]; simp [upd, b3', epc]
        · rw [c 4 (by omega) (by omega)]; simp [upd, e4]
        · rw [c 14 (by omega) (by omega)]; simp [upd, e14]
      · rw [if_neg hd] at f6
        rw [f6] at s9
        simp only [T.head, T.tail] at s9
        have s10 := jump_no (lim := lim) (q := uProg) (pc := 107) (a := 13) (d := 9) (r := upd (upd r5 13 .nil) 10 (T.nm d.toNat)) rfl (by simp [upd])
        obtain ⟨r6, s11, n1, n2, n3, n4, n14⟩ := un_fwd (lim := lim) d.toNat s.pc ((q.drop s.pc).map I.code) (upd (upd r5 13 .nil) 10 (T.nm d.toNat)) (by simp [upd]) (by simp [upd]; rw [h6.w2]; simp [codeT]) (by simp [upd, h6.w3]) (by simp [upd, h6.w14]) (by omega)
        have s12 := jump_yes (lim := lim) (q := uProg) (pc := 115) (pc' := 5) (a := 14) (d := -110) (r := r6) rfl (by rw [n14]; simp) rfl
        have epc : ((s.pc : Int) + d).toNat = s.pc + d.toNat := by omega
        refine ⟨_, r6, L, ?_, ?_, sgo (sgo (sgo (sgo (sgo S0 s8 rfl) s9 rfl) s10 rfl) s11 rfl) s12 rfl, ⟨?_, ?_, ?_, ?_, n14, h.reg, h.len⟩⟩
        · omega
        · omega
        · rw [n1]; simp [upd, h6.w1]
        · rw [n2]; simp only [epc, codeT]; simp [List.map_drop]
        · rw [n3]; simp [epc]
        · rw [n4]; simp [upd, h6.w4]
end
end Go.Proofs.Ytgbieakahgkkpaa
