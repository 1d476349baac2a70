/- Programs out of programs: one after the other, as a pair, by a condition. Plain Lean. -/
import Derived.Test.YtgbieakahgkkpaaLoop
import Derived.Test.YtgbieakahgkkpaaBuildE
import Derived.Test.YtgbieakahgkkpaaBuildF
namespace Go.Proofs.Ytgbieakahgkkpaa
set_option linter.unusedVariables false

def thenI (mq : Nat) (p q : List I) : List I := p ++ (cleanI mq ++ q)
def pairI (n mq : Nat) (p q : List I) : List I := [.move n 0] ++ (p ++ ([.move (n + 1) 0] ++ ([.move 0 n] ++ (cleanI mq ++ (q ++ [.cons 0 (n + 1) 0])))))
def ifI (n mp mq : Nat) (c p q : List I) : List I :=
  [.move n 0] ++ (c ++ ([.jump 0 ((mq + q.length + 3 : Nat) : Int)] ++ ([.move 0 n] ++ (cleanI mq ++ (q ++ ([.set n (.pair .nil .nil)] ++ ([.jump n ((mp + p.length + 1 : Nat) : Int)] ++ ([.move 0 n] ++ (cleanI mp ++ p)))))))))

def noIns (n mq L : Nat) (q : List Ins) : List Ins := [moveIns 0 n] ++ ((cleanIns mq ++ q) ++ leapIns n (1 + (L : Int)))
def yesIns (n mp : Nat) (p : List Ins) : List Ins := [moveIns 0 n] ++ (cleanIns mp ++ p)
def ifIns (n mp mq : Nat) (c p q : List Ins) : List Ins :=
  [moveIns n 0] ++ (c ++ ([jumpIns 0 (1 + ((noIns n mq (yesIns n mp p).length q).length : Int))] ++ (noIns n mq (yesIns n mp p).length q ++ yesIns n mp p)))

theorem thenIns_enc (mq : Nat) (p q : List I) : thenIns mq (encP p) (encP q) = encP (thenI mq p q) := by
  simp only [thenIns, thenI, encP_append, encP_clean]
theorem pairIns_enc (n mq : Nat) (p q : List I) : pairIns n mq (encP p) (encP q) = encP (pairI n mq p q) := by
  simp only [pairIns, pairOut, pairI, encP_append, encP_clean, List.append_assoc]
  simp [encP, moveIns, consIns, I.enc]
theorem ifIns_enc (n mp mq : Nat) (c p q : List I) (h1 : 1 ≤ mp) (h2 : 1 ≤ mq) : ifIns n mp mq (encP c) (encP p) (encP q) = encP (ifI n mp mq c p q) := by
  have e1 : (yesIns n mp (encP p)).length = mp + p.length := by simp [yesIns, cleanIns_length, encP_length]; omega
  have e2 : (noIns n mq (mp + p.length) (encP q)).length = mq + q.length + 2 := by simp [noIns, leapIns, cleanIns_length, encP_length]; omega
  unfold ifIns
  rw [e1, e2]
  simp only [noIns, yesIns, ifI, encP_append, encP_clean, List.append_assoc, leapIns]
  simp [encP, moveIns, jumpIns, I.enc]
  constructor <;> omega

section
variable {n mp mq : Nat} {c p q : List I}

theorem then_len (h2 : 1 ≤ mq) : (thenI mq p q).length + 1 = p.length + mq + q.length := by simp [thenI, cleanI_length]; omega
theorem then_wf (hp : WF p) (hq : WF q) (hm : mq ≤ 28) : WF (thenI mq p q) := by
  refine WFr.wf ?_
  have hl : (thenI mq p q).length = p.length + ((mq - 1) + q.length) := by simp [thenI, cleanI_length]
  rw [hl]
  unfold thenI
  exact (WFr.of hp (by omega)).append ((WFr.clean (by omega)).append (WFr.of hq (by rw [cleanI_length]; omega)))
theorem then_good (hp : WF p) (hq : WF q) (hm : mq ≤ 28) (lp : p.length ≤ 60) (lq : q.length ≤ 60) (cp : charsOf p ≤ 2000) (cq : charsOf q ≤ 2000) : goodP (encP (thenI mq p q)) 4000 2000000 :=
  goodP_iff.2 ⟨_, rfl, then_wf hp hq hm, by simp [thenI, cleanI_length]; omega, by simp only [thenI, charsOf_append, charsOf_clean]; omega⟩

theorem then_mid (hp : WF p) (hmq : mq = regsOf q) {x y : T} {k : Nat} (h : play p 300 0 (first x) = .ended y k) :
    ∃ r, steps (thenI mq p q) (k + (mq - 1)) (first x) = some ⟨p.length + (mq - 1), r⟩ ∧ Clean (regsOf q) y r := by
  have e0 : Emb (thenI mq p q) 0 p := Emb.left _ _
  have e1 : Emb (thenI mq p q) p.length (cleanI mq) := (Emb.left _ _).skip rfl
  obtain ⟨r1, s1, z1, k1⟩ := run_ended (r := (first x).r) e0 hp h ⟨by simp [first], fun j h1 _ => by simp only [first]; rw [if_neg (by omega)]⟩
  rw [Nat.zero_add] at s1
  obtain ⟨r2, s2, c2, _⟩ := run_clean' e1 r1
  rw [z1] at c2
  exact ⟨r2, steps_then s1 s2, hmq ▸ c2⟩
theorem then_ends (hp : WF p) (hq : WF q) (hmq : mq = regsOf q) {x y z : T} {k j : Nat} (h : play p 300 0 (first x) = .ended y k) (h' : play q 300 0 (first y) = .ended z j) :
    play (thenI mq p q) (k + j + (mq - 1)) 0 (first x) = .ended z (k + j + (mq - 1)) := by
  obtain ⟨r, s1, c1⟩ := then_mid hp hmq h
  have e2 : Emb (thenI mq p q) (p.length + (mq - 1)) q := ((Emb.all _).skip rfl).skip (by rw [cleanI_length]; omega)
  obtain ⟨r2, s2, z2, _⟩ := run_ended e2 hq h' c1
  have s := steps_then s1 s2
  rw [show k + (mq - 1) + j = k + j + (mq - 1) by omega] at s
  exact (play_ended _ _ _ _ _ _).2 ⟨_, _, Nat.le_refl _, by omega, s, by simp [thenI, cleanI_length]; omega, z2.symm⟩
theorem then_first (hp : WF p) {x : T} {j : Nat} (h : play p 300 0 (first x) = .going j) : ∀ y j, play (thenI mq p q) 300 0 (first x) ≠ .ended y j := by
  have e0 : Emb (thenI mq p q) 0 p := Emb.left _ _
  obtain ⟨v, s, hv⟩ := run_going (r := (first x).r) e0 hp h ⟨by simp [first], fun j h1 _ => by simp only [first]; rw [if_neg (by omega)]⟩
  exact not_ended s (by have : (thenI mq p q).length = p.length + ((mq - 1) + q.length) := by simp [thenI, cleanI_length]
                        omega) (Nat.le_refl _)
theorem then_second (hp : WF p) (hq : WF q) (hmq : mq = regsOf q) {x y : T} {k j : Nat} (h : play p 300 0 (first x) = .ended y k) (h' : play q 300 0 (first y) = .going j) : ∀ y j, play (thenI mq p q) 300 0 (first x) ≠ .ended y j := by
  obtain ⟨r, s1, c1⟩ := then_mid hp hmq h
  have e2 : Emb (thenI mq p q) (p.length + (mq - 1)) q := ((Emb.all _).skip rfl).skip (by rw [cleanI_length]; omega)
  obtain ⟨v, s2, hv⟩ := run_going e2 hq h' c1
  exact not_ended (steps_then s1 s2) (by have : (thenI mq p q).length = p.length + ((mq - 1) + q.length) := by simp [thenI, cleanI_length]
                                         omega) (by omega)

theorem pair_len : (pairI n mq p q).length = 1 + (p.length + (2 + ((mq - 1) + (q.length + 1)))) := by simp [pairI, cleanI_length]; omega
theorem pair_wf (hp : WF p) (hq : WF q) (hn : n ≤ 28) (hm : mq ≤ 28) : WF (pairI n mq p q) := by
  refine WFr.wf ?_
  rw [pair_len]
  unfold pairI
  refine (WFr.one (by simp only [wfI]; omega)).append ((WFr.of hp (by simp only [List.length_cons, List.length_nil]; omega)).append ((WFr.one ?_).append ((WFr.one ?_).append ((WFr.clean (by omega)).append ((WFr.of hq ?_).append (WFr.one ?_))))))
  all_goals (simp only [wfI, cleanI_length, List.length_cons, List.length_nil]; omega)
theorem pair_good (hp : WF p) (hq : WF q) (hn : n ≤ 28) (hm : mq ≤ 28) (lp : p.length ≤ 60) (lq : q.length ≤ 60) (cp : charsOf p ≤ 2000) (cq : charsOf q ≤ 2000) : goodP (encP (pairI n mq p q)) 4000 2000000 :=
  goodP_iff.2 ⟨_, rfl, pair_wf hp hq hn hm, by rw [pair_len]; omega, by
    simp only [pairI, charsOf_append, charsOf_clean]; simp [charsOf, I.chars] at *; omega⟩
theorem pair_start {x : T} (hn : 1 ≤ n) : steps (pairI n mq p q) 1 (first x) = some ⟨1, upd (first x).r n x⟩ := by
  have e0 : Emb (pairI n mq p q) 0 [.move n 0] := Emb.left _ _
  exact steps_one (by rw [step_at (show (pairI n mq p q)[(first x).pc]? = some (.move n 0) from e0.one)]; simp [step1, first])
theorem pair_clean {x : T} {m : Nat} (hn : 1 ≤ n) (hm : m ≤ n) : Clean m x (upd (first x).r n x) := by
  refine ⟨?_, fun j h1 h2 => ?_⟩
  · unfold upd; rw [if_neg (by omega)]; simp [first]
  · unfold upd; rw [if_neg (by omega)]; simp only [first]; rw [if_neg (by omega)]
theorem pair_ends (hp : WF p) (hq : WF q) (hmp : regsOf p ≤ n) (hmq : mq = regsOf q) (hmn : mq ≤ n) {x y z : T} {k j : Nat} (h : play p 300 0 (first x) = .ended y k) (h' : play q 300 0 (first x) = .ended z j) (hs : y.size + z.size < MaxT) :
    play (pairI n mq p q) (k + j + (mq - 1) + 4) 0 (first x) = .ended (.pair y z) (k + j + (mq - 1) + 4) := by
  have hn1 : 1 ≤ n := by unfold regsOf at hmp; omega
  have hq1 : 1 ≤ mq := by rw [hmq]; unfold regsOf; omega
  have s0 := pair_start (mq := mq) (p := p) (q := q) (x := x) hn1
  have e1 : Emb (pairI n mq p q) 1 p := (Emb.left _ _).skip rfl
  obtain ⟨r1, s1, z1, k1⟩ := run_ended e1 hp h (pair_clean hn1 hmp)
  have hrn : r1 n = x := by rw [k1 n hmp]; simp [upd]
  have e2 : Emb (pairI n mq p q) (1 + p.length) [.move (n + 1) 0] := ((Emb.left _ _).skip rfl).skip rfl
  have e3 : Emb (pairI n mq p q) (1 + p.length + 1) [.move 0 n] := (((Emb.left _ _).skip rfl).skip rfl).skip (by simp only [List.length_cons, List.length_nil]; omega)
  have s2 := steps_one (q := pairI n mq p q) (s := ⟨1 + p.length, r1⟩) (t := ⟨1 + p.length + 1, upd r1 (n + 1) (r1 0)⟩) (by rw [step_at (e2.one)]; rfl)
  have s3 := steps_one (q := pairI n mq p q) (s := ⟨1 + p.length + 1, upd r1 (n + 1) (r1 0)⟩) (t := ⟨1 + p.length + 2, upd (upd r1 (n + 1) (r1 0)) 0 (r1 n)⟩) (by rw [step_at (e3.one)]; simp [step1, upd])
  have e4 : Emb (pairI n mq p q) (1 + p.length + 2) (cleanI mq) := ((((Emb.left _ _).skip rfl).skip rfl).skip rfl).skip (by simp only [List.length_cons, List.length_nil]; omega)
  obtain ⟨r4, s4, c4, k4⟩ := run_clean' e4 (upd (upd r1 (n + 1) (r1 0)) 0 (r1 n))
  have h0 : upd (upd r1 (n + 1) (r1 0)) 0 (r1 n) 0 = x := by simp [upd, hrn]
  rw [h0] at c4
  have h4 : r4 (n + 1) = y := by rw [k4 (n + 1) (by omega) (by omega)]; simp [upd, z1]
  have e5 : Emb (pairI n mq p q) (1 + p.length + 2 + (mq - 1)) q := (((((Emb.left _ _).skip rfl).skip rfl).skip rfl).skip rfl).skip (by simp only [List.length_cons, List.length_nil, cleanI_length]; omega)
  obtain ⟨r5, s5, z5, k5⟩ := run_ended e5 hq h' (hmq ▸ c4)
  have h5 : r5 (n + 1) = y := by rw [k5 (n + 1) (by omega), h4]
  have e6 : Emb (pairI n mq p q) (1 + p.length + 2 + (mq - 1) + q.length) [.cons 0 (n + 1) 0] := ((((((Emb.all _).skip rfl).skip rfl).skip rfl).skip rfl).skip rfl).skip (by simp only [List.length_cons, List.length_nil, cleanI_length]; omega)
  have s6 := steps_one (q := pairI n mq p q) (s := ⟨1 + p.length + 2 + (mq - 1) + q.length, r5⟩) (t := ⟨1 + p.length + 2 + (mq - 1) + q.length + 1, upd r5 0 (.pair y z)⟩) (by rw [step_at (e6.one)]; simp only [step1, h5, z5]; rw [if_pos hs])
  have s := steps_then s0 (steps_then s1 (steps_then s2 (steps_then s3 (steps_then s4 (steps_then s5 s6)))))
  rw [show 1 + (k + (1 + (1 + (mq - 1 + (j + 1))))) = k + j + (mq - 1) + 4 by omega] at s
  exact (play_ended _ _ _ _ _ _).2 ⟨_, _, Nat.le_refl _, by omega, s, by rw [pair_len]; simp only; omega, by simp [upd]⟩
theorem pair_first (hp : WF p) (hmp : regsOf p ≤ n) {x : T} {j : Nat} (h : play p 300 0 (first x) = .going j) : ∀ y j, play (pairI n mq p q) 300 0 (first x) ≠ .ended y j := by
  have hn1 : 1 ≤ n := by unfold regsOf at hmp; omega
  have s0 := pair_start (mq := mq) (p := p) (q := q) (x := x) hn1
  have e1 : Emb (pairI n mq p q) 1 p := (Emb.left _ _).skip rfl
  obtain ⟨v, s1, hv⟩ := run_going e1 hp h (pair_clean hn1 hmp)
  exact not_ended (steps_then s0 s1) (by rw [pair_len]; omega) (by omega)

theorem if_len (h1 : 1 ≤ mp) (h2 : 1 ≤ mq) : (ifI n mp mq c p q).length = c.length + mq + q.length + mp + p.length + 4 := by simp [ifI, cleanI_length]; omega
theorem if_wf (hc : WF c) (hp : WF p) (hq : WF q) (hn : n ≤ 28) (hm : mq ≤ 28) (hm' : mp ≤ 28) (h1 : 1 ≤ mp) (h2 : 1 ≤ mq) : WF (ifI n mp mq c p q) := by
  refine WFr.wf ?_
  rw [if_len h1 h2]
  unfold ifI
  refine (WFr.one (by simp only [wfI]; omega)).append ((WFr.of hc (by simp only [List.length_cons, List.length_nil]; omega)).append ((WFr.one ?_).append ((WFr.one ?_).append ((WFr.clean (by omega)).append ((WFr.of hq ?_).append ((WFr.one ?_).append ((WFr.one ?_).append ((WFr.one ?_).append ((WFr.clean (by omega)).append (WFr.of hp ?_))))))))))
  all_goals (simp only [wfI, cleanI_length, List.length_cons, List.length_nil]; omega)
theorem if_good (hc : WF c) (hp : WF p) (hq : WF q) (hn : n ≤ 28) (hm : mq ≤ 28) (hm' : mp ≤ 28) (h1 : 1 ≤ mp) (h2 : 1 ≤ mq) (lc : c.length ≤ 60) (lp : p.length ≤ 60) (lq : q.length ≤ 60) (cc : charsOf c ≤ 2000) (cp : charsOf p ≤ 2000) (cq : charsOf q ≤ 2000) : goodP (encP (ifI n mp mq c p q)) 4000 2000000 :=
  goodP_iff.2 ⟨_, rfl, if_wf hc hp hq hn hm hm' h1 h2, by rw [if_len h1 h2]; omega, by
    simp only [ifI, charsOf_append, charsOf_clean]; simp [charsOf, I.chars, T.size] at *; omega⟩
theorem if_start {x : T} : steps (ifI n mp mq c p q) 1 (first x) = some ⟨1, upd (first x).r n x⟩ := by
  have e0 : Emb (ifI n mp mq c p q) 0 [.move n 0] := Emb.left _ _
  exact steps_one (by rw [step_at (show (ifI n mp mq c p q)[(first x).pc]? = some (.move n 0) from e0.one)]; simp [step1, first])
theorem if_cond (hc : WF c) (hmc : regsOf c ≤ n) (h1 : 1 ≤ mp) (h2 : 1 ≤ mq) {x z : T} {k : Nat} (h : play c 300 0 (first x) = .ended z k) :
    ∃ r, steps (ifI n mp mq c p q) (k + 2) (first x) = some ⟨if z = .nil then c.length + 2 else c.length + mq + q.length + 4, r⟩ ∧ r n = x := by
  have hn1 : 1 ≤ n := by unfold regsOf at hmc; omega
  have e1 : Emb (ifI n mp mq c p q) 1 c := (Emb.left _ _).skip rfl
  obtain ⟨r1, s1, z1, k1⟩ := run_ended e1 hc h (pair_clean hn1 hmc)
  have e2 : Emb (ifI n mp mq c p q) (1 + c.length) [.jump 0 ((mq + q.length + 3 : Nat) : Int)] := ((Emb.left _ _).skip rfl).skip rfl
  have s2 := steps_one (q := ifI n mp mq c p q) (s := ⟨1 + c.length, r1⟩) (t := ⟨if z = .nil then c.length + 2 else c.length + mq + q.length + 4, r1⟩) (by
    rw [step_at (e2.one)]; simp only [step1, z1]
    congr 2
    split <;> omega)
  have s := steps_then if_start (steps_then s1 s2)
  rw [show 1 + (k + 1) = k + 2 by omega] at s
  exact ⟨r1, s, by rw [k1 n hmc]; simp [upd]⟩
theorem if_condgo (hc : WF c) (hmc : regsOf c ≤ n) (h1 : 1 ≤ mp) (h2 : 1 ≤ mq) {x : T} {j : Nat} (h : play c 300 0 (first x) = .going j) : ∀ y j, play (ifI n mp mq c p q) 300 0 (first x) ≠ .ended y j := by
  have hn1 : 1 ≤ n := by unfold regsOf at hmc; omega
  have e1 : Emb (ifI n mp mq c p q) 1 c := (Emb.left _ _).skip rfl
  obtain ⟨v, s1, hv⟩ := run_going e1 hc h (pair_clean hn1 hmc)
  exact not_ended (steps_then if_start s1) (by rw [if_len h1 h2]; omega) (by omega)
theorem if_no (hc : WF c) (hmc : regsOf c ≤ n) (hmq : mq = regsOf q) (hmn : mq ≤ n) (h1 : 1 ≤ mp) (h2 : 1 ≤ mq) {x : T} {k : Nat} (h : play c 300 0 (first x) = .ended .nil k) :
    ∃ r, steps (ifI n mp mq c p q) (k + mq + 2) (first x) = some ⟨c.length + mq + 2, r⟩ ∧ Clean (regsOf q) x r := by
  obtain ⟨r1, s1, hrn⟩ := if_cond (p := p) (q := q) hc hmc h1 h2 h
  rw [if_pos rfl] at s1
  have e2 : Emb (ifI n mp mq c p q) (c.length + 2) [.move 0 n] := (((Emb.left _ _).skip rfl).skip rfl).skip (by simp only [List.length_cons, List.length_nil]; omega)
  have e3 : Emb (ifI n mp mq c p q) (c.length + 3) (cleanI mq) := ((((Emb.left _ _).skip rfl).skip rfl).skip rfl).skip (by simp only [List.length_cons, List.length_nil]; omega)
  have s2 := steps_one (q := ifI n mp mq c p q) (s := ⟨c.length + 2, r1⟩) (t := ⟨c.length + 3, upd r1 0 (r1 n)⟩) (by rw [step_at (e2.one)]; rfl)
  obtain ⟨r3, s3, c3, _⟩ := run_clean' e3 (upd r1 0 (r1 n))
  have h0 : upd r1 0 (r1 n) 0 = x := by simp [upd, hrn]
  rw [h0] at c3
  have s := steps_then s1 (steps_then s2 s3)
  rw [show k + 2 + (1 + (mq - 1)) = k + mq + 2 by omega, show c.length + 3 + (mq - 1) = c.length + mq + 2 by omega] at s
  exact ⟨r3, s, hmq ▸ c3⟩
theorem if_yes (hc : WF c) (hmc : regsOf c ≤ n) (hmp : mp = regsOf p) (hmn : mp ≤ n) (h1 : 1 ≤ mp) (h2 : 1 ≤ mq) {x z : T} {k : Nat} (h : play c 300 0 (first x) = .ended z k) (hz : z ≠ .nil) :
    ∃ r, steps (ifI n mp mq c p q) (k + mp + 2) (first x) = some ⟨c.length + mq + q.length + 4 + mp, r⟩ ∧ Clean (regsOf p) x r := by
  obtain ⟨r1, s1, hrn⟩ := if_cond (p := p) (q := q) hc hmc h1 h2 h
  rw [if_neg hz] at s1
  have e2 : Emb (ifI n mp mq c p q) (c.length + mq + q.length + 4) [.move 0 n] := ((((((((Emb.left _ _).skip rfl).skip rfl).skip rfl).skip rfl).skip rfl).skip rfl).skip rfl).skip (by simp only [List.length_cons, List.length_nil, cleanI_length]; omega)
  have e3 : Emb (ifI n mp mq c p q) (c.length + mq + q.length + 5) (cleanI mp) := (((((((((Emb.left _ _).skip rfl).skip rfl).skip rfl).skip rfl).skip rfl).skip rfl).skip rfl).skip rfl).skip (by simp only [List.length_cons, List.length_nil, cleanI_length]; omega)
  have s2 := steps_one (q := ifI n mp mq c p q) (s := ⟨c.length + mq + q.length + 4, r1⟩) (t := ⟨c.length + mq + q.length + 5, upd r1 0 (r1 n)⟩) (by rw [step_at (e2.one)]; rfl)
  obtain ⟨r3, s3, c3, _⟩ := run_clean' e3 (upd r1 0 (r1 n))
  have h0 : upd r1 0 (r1 n) 0 = x := by simp [upd, hrn]
  rw [h0] at c3
  have s := steps_then s1 (steps_then s2 s3)
  rw [show k + 2 + (1 + (mp - 1)) = k + mp + 2 by omega, show c.length + mq + q.length + 5 + (mp - 1) = c.length + mq + q.length + 4 + mp by omega] at s
  exact ⟨r3, s, hmp ▸ c3⟩
theorem if_no_emb : Emb (ifI n mp mq c p q) (c.length + 3 + (mq - 1)) q := (((((Emb.left _ _).skip rfl).skip rfl).skip rfl).skip rfl).skip (by simp only [List.length_cons, List.length_nil, cleanI_length]; omega)
theorem if_no_ends (hc : WF c) (hq : WF q) (hmc : regsOf c ≤ n) (hmq : mq = regsOf q) (hmn : mq ≤ n) (h1 : 1 ≤ mp) (h2 : 1 ≤ mq) {x y : T} {k j : Nat} (h : play c 300 0 (first x) = .ended .nil k) (h' : play q 300 0 (first x) = .ended y j) :
    play (ifI n mp mq c p q) (k + mq + 4 + j) 0 (first x) = .ended y (k + mq + 4 + j) := by
  obtain ⟨r1, s1, c1⟩ := if_no (p := p) hc hmc hmq hmn h1 h2 h
  have e2 : Emb (ifI n mp mq c p q) (c.length + mq + 2) q := by
    have := if_no_emb (n := n) (mp := mp) (mq := mq) (c := c) (p := p) (q := q)
    rwa [show c.length + 3 + (mq - 1) = c.length + mq + 2 by omega] at this
  obtain ⟨r2, s2, z2, k2⟩ := run_ended e2 hq h' c1
  have e3 : Emb (ifI n mp mq c p q) (c.length + mq + 2 + q.length) [.set n (.pair .nil .nil)] := ((((((Emb.left _ _).skip rfl).skip rfl).skip rfl).skip rfl).skip rfl).skip (by simp only [List.length_cons, List.length_nil, cleanI_length]; omega)
  have e4 : Emb (ifI n mp mq c p q) (c.length + mq + 2 + q.length + 1) [.jump n ((mp + p.length + 1 : Nat) : Int)] := (((((((Emb.left _ _).skip rfl).skip rfl).skip rfl).skip rfl).skip rfl).skip rfl).skip (by simp only [List.length_cons, List.length_nil, cleanI_length]; omega)
  have s3 := steps_one (q := ifI n mp mq c p q) (s := ⟨c.length + mq + 2 + q.length, r2⟩) (t := ⟨c.length + mq + 2 + q.length + 1, upd r2 n (.pair .nil .nil)⟩) (by rw [step_at (e3.one)]; rfl)
  have s4 := steps_one (q := ifI n mp mq c p q) (s := ⟨c.length + mq + 2 + q.length + 1, upd r2 n (.pair .nil .nil)⟩) (t := ⟨c.length + mq + q.length + mp + p.length + 4, upd r2 n (.pair .nil .nil)⟩) (by
    rw [step_at (e4.one)]; simp only [step1, upd, if_true, if_neg (show ¬ T.pair .nil .nil = .nil by simp)]
    congr 2; omega)
  have hn1 : 1 ≤ n := by omega
  have s := steps_then s1 (steps_then s2 (steps_then s3 s4))
  rw [show k + mq + 2 + (j + (1 + 1)) = k + mq + 4 + j by omega] at s
  exact (play_ended _ _ _ _ _ _).2 ⟨_, _, Nat.le_refl _, by omega, s, by rw [if_len h1 h2], by simp only [upd]; rw [if_neg (by omega), z2]⟩
theorem if_no_go (hc : WF c) (hq : WF q) (hmc : regsOf c ≤ n) (hmq : mq = regsOf q) (hmn : mq ≤ n) (h1 : 1 ≤ mp) (h2 : 1 ≤ mq) {x : T} {k j : Nat} (h : play c 300 0 (first x) = .ended .nil k) (h' : play q 300 0 (first x) = .going j) :
    ∀ y j, play (ifI n mp mq c p q) 300 0 (first x) ≠ .ended y j := by
  obtain ⟨r1, s1, c1⟩ := if_no (p := p) hc hmc hmq hmn h1 h2 h
  have e2 : Emb (ifI n mp mq c p q) (c.length + mq + 2) q := by
    have := if_no_emb (n := n) (mp := mp) (mq := mq) (c := c) (p := p) (q := q)
    rwa [show c.length + 3 + (mq - 1) = c.length + mq + 2 by omega] at this
  obtain ⟨v, s2, hv⟩ := run_going e2 hq h' c1
  exact not_ended (steps_then s1 s2) (by rw [if_len h1 h2]; omega) (by omega)
theorem if_yes_emb : Emb (ifI n mp mq c p q) (c.length + mq + q.length + 4 + mp) p → True := fun _ => trivial
theorem if_yes_ends (hc : WF c) (hp : WF p) (hmc : regsOf c ≤ n) (hmp : mp = regsOf p) (hmn : mp ≤ n) (h1 : 1 ≤ mp) (h2 : 1 ≤ mq) {x y z : T} {k j : Nat} (h : play c 300 0 (first x) = .ended z k) (hz : z ≠ .nil) (h' : play p 300 0 (first x) = .ended y j) :
    play (ifI n mp mq c p q) (k + mp + 2 + j) 0 (first x) = .ended y (k + mp + 2 + j) := by
  obtain ⟨r1, s1, c1⟩ := if_yes (q := q) hc hmc hmp hmn h1 h2 h hz
  have e2 : Emb (ifI n mp mq c p q) (c.length + mq + q.length + 4 + mp) p := ((((((((((Emb.all _).skip rfl).skip rfl).skip rfl).skip rfl).skip rfl).skip rfl).skip rfl).skip rfl).skip rfl).skip (by simp only [List.length_cons, List.length_nil, cleanI_length]; omega)
  obtain ⟨r2, s2, z2, _⟩ := run_ended e2 hp h' c1
  exact (play_ended _ _ _ _ _ _).2 ⟨_, _, Nat.le_refl _, by omega, steps_then s1 s2, by rw [if_len h1 h2]; simp only; omega, z2.symm⟩
theorem if_yes_go (hc : WF c) (hp : WF p) (hmc : regsOf c ≤ n) (hmp : mp = regsOf p) (hmn : mp ≤ n) (h1 : 1 ≤ mp) (h2 : 1 ≤ mq) {x z : T} {k j : Nat} (h : play c 300 0 (first x) = .ended z k) (hz : z ≠ .nil) (h' : play p 300 0 (first x) = .going j) :
    ∀ y j, play (ifI n mp mq c p q) 300 0 (first x) ≠ .ended y j := by
  obtain ⟨r1, s1, c1⟩ := if_yes (q := q) hc hmc hmp hmn h1 h2 h hz
  have e2 : Emb (ifI n mp mq c p q) (c.length + mq + q.length + 4 + mp) p := ((((((((((Emb.all _).skip rfl).skip rfl).skip rfl).skip rfl).skip rfl).skip rfl).skip rfl).skip rfl).skip rfl).skip (by simp only [List.length_cons, List.length_nil, cleanI_length]; omega)
  obtain ⟨v, s2, hv⟩ := run_going e2 hp h' c1
  exact not_ended (steps_then s1 s2) (by rw [if_len h1 h2]; omega) (by omega)
end
end Go.Proofs.Ytgbieakahgkkpaa
