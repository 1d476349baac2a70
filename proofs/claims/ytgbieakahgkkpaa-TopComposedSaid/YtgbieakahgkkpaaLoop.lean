import Derived.Test.YtgbieakahgkkpaaPlay
import Derived.Test.YtgbieakahgkkpaaBuildD
namespace Go.Proofs.Ytgbieakahgkkpaa

theorem Emb.left (c b : List I) : Emb (c ++ b) 0 c := by
  intro i x h
  have hi := (List.getElem?_eq_some_iff.1 h).1
  rw [Nat.zero_add, List.getElem?_append_left hi, h]
theorem Emb.all (c : List I) : Emb c 0 c := by intro i x h; rw [Nat.zero_add]; exact h
theorem Emb.skip {a b c : List I} {o o' : Nat} (h : Emb b o c) (e : o' = a.length + o) : Emb (a ++ b) o' c := by
  intro i x hx
  subst e
  rw [List.getElem?_append_right (by omega), show a.length + o + i - a.length = o + i by omega]
  exact h i x hx
theorem Emb.one {q : List I} {o : Nat} {x : I} (h : Emb q o [x]) : q[o]? = some x := by have := h 0 x rfl; simpa using this

/-- A piece of a program of the rules. -/
def WFr (o N : Nat) (c : List I) : Prop := ∀ (i : Nat) (x : I), c[i]? = some x → wfI (o + i) N x
theorem WFr.append {o N : Nat} {a b : List I} (h1 : WFr o N a) (h2 : WFr (o + a.length) N b) : WFr o N (a ++ b) := by
  intro i x h
  by_cases hi : i < a.length
  · rw [List.getElem?_append_left hi] at h; exact h1 i x h
  · rw [List.getElem?_append_right (by omega)] at h
    have := h2 _ x h
    rwa [show o + a.length + (i - a.length) = o + i by omega] at this
theorem WFr.one {o N : Nat} {x : I} (h : wfI o N x) : WFr o N [x] := by
  intro i y hy
  cases i with
  | zero => simp at hy; subst hy; exact h
  | succ i => simp at hy
theorem WFr.of {o N : Nat} {c : List I} (h : WF c) (hN : o + c.length ≤ N) : WFr o N c := by
  intro i x hx
  have := h i x hx
  have hi := (List.getElem?_eq_some_iff.1 hx).1
  cases x <;> simp only [wfI] at * <;> omega
theorem WFr.clean {o N n : Nat} (hn : n ≤ 32) : WFr o N (cleanI n) := by
  intro i x hx
  have hi := (List.getElem?_eq_some_iff.1 hx).1
  rw [cleanI_length] at hi
  rw [cleanI_get hi] at hx
  simp only [Option.some.injEq] at hx; subst hx
  simp only [wfI]; omega
theorem WFr.wf {q : List I} (h : WFr 0 q.length q) : WF q := fun i x hx => by have := h i x hx; rwa [Nat.zero_add] at this

theorem encP_append (a b : List I) : encP (a ++ b) = encP a ++ encP b := by simp [encP]
theorem encP_clean (n : Nat) : encP (cleanI n) = cleanIns n := by
  simp only [encP, cleanI, cleanIns, List.map_map]
  congr 1
theorem charsOf_append (a b : List I) : charsOf (a ++ b) = charsOf a + charsOf b := by simp [charsOf]
theorem charsOf_clean (n : Nat) : charsOf (cleanI n) = n - 1 := by
  simp only [charsOf, cleanI, List.map_map]
  have : ∀ k, ((List.range k).map (I.chars ∘ fun i => .set (i + 1) .nil)).sum = k := by
    intro k
    induction k with
    | zero => rfl
    | succ k ih => rw [List.range_succ, List.map_append, List.sum_append, ih]; simp [I.chars, T.size]
  exact this (n - 1)

def leapI (r : Nat) (d : Int) : List I := [.set r (.pair .nil .nil), .jump r d]
def workI (n mp : Nat) (p : List I) : List I := [.move 0 n] ++ (cleanI mp ++ p)
/-- The loop, in order. -/
def whileI (n mc mp : Nat) (c p : List I) : List I :=
  [.move n 0] ++ (cleanI mc ++ (c ++ ([.jump 0 4] ++ ([.move 0 n] ++ ([.set n (.pair .nil .nil)] ++ ([.jump n (((mp + p.length : Nat) : Int) + 3)] ++ ([.move 0 n] ++ (cleanI mp ++ (p ++ ([.set n (.pair .nil .nil)] ++ [.jump n (-((mc + c.length + 4 + mp + p.length : Nat) : Int) - 1)]))))))))))

theorem whileIns_enc (n mc mp : Nat) (c p : List I) (h1 : 1 ≤ mc) (h2 : 1 ≤ mp) : whileIns n mc mp (encP c) (encP p) = encP (whileI n mc mp c p) := by
  have e1 : (workIns n mp (encP p)).length = mp + p.length := by simp [workIns, cleanIns_length, encP_length]; omega
  have e2 : (whileOut n mc mp (encP c) (encP p)).length = mc + c.length + 4 + mp + p.length := by
    simp [whileOut, askIns, leaveIns, leapIns, e1, cleanIns_length, encP_length]; omega
  unfold whileIns
  rw [e2]
  unfold whileOut
  rw [e1]
  unfold whileI
  simp only [encP_append, encP_clean]
  simp only [askIns, leaveIns, workIns, leapIns, moveIns, jumpIns, List.append_assoc, List.cons_append, List.nil_append]
  rfl

section
variable {n mc mp : Nat} {c p : List I} (h1 : 1 ≤ mc) (h2 : 1 ≤ mp)
include h1 h2
theorem while_len : (whileI n mc mp c p).length = mc + c.length + 4 + mp + p.length + 2 := by
  simp [whileI, cleanI_length]; omega
theorem while_wf (hc : WF c) (hp : WF p) (hn : n ≤ 28) (hmc : mc ≤ 28) (hmp : mp ≤ 28) : WF (whileI n mc mp c p) := by
  refine WFr.wf ?_
  rw [while_len h1 h2]
  unfold whileI
  refine (WFr.one (by simp only [wfI]; omega)).append ((WFr.clean (by omega)).append ((WFr.of hc (by simp [cleanI_length]; omega)).append ((WFr.one ?_).append ((WFr.one ?_).append ((WFr.one ?_).append ((WFr.one ?_).append ((WFr.one ?_).append ((WFr.clean (by omega)).append ((WFr.of hp ?_).append ((WFr.one ?_).append (WFr.one ?_)))))))))))
  all_goals (simp only [wfI, cleanI_length, List.length_cons, List.length_nil]; omega)
omit h1 h2 in
theorem while_chars : charsOf (whileI n mc mp c p) = charsOf c + charsOf p + (mc - 1) + (mp - 1) + 6 := by
  simp only [whileI, charsOf_append, charsOf_clean]
  simp [charsOf, I.chars, T.size]; omega
theorem while_good (hc : WF c) (hp : WF p) (hn : n ≤ 28) (hmc : mc ≤ 28) (hmp : mp ≤ 28) (lc : c.length ≤ 60) (lp : p.length ≤ 60) (cc : charsOf c ≤ 2000) (cp : charsOf p ≤ 2000) : goodP (encP (whileI n mc mp c p)) 4000 2000000 :=
  goodP_iff.2 ⟨_, rfl, while_wf h1 h2 hc hp hn hmc hmp, by rw [while_len h1 h2]; omega, by rw [while_chars]; omega⟩

omit h1 h2 in
theorem step_at {q : List I} {s : St} {x : I} (h : q[s.pc]? = some x) : step q s = step1 x s := by unfold step; rw [h]

/-- The loop stands before its condition after st steps, with y in register 0. -/
def LoopAt (q : List I) (x : T) (st : Nat) (y : T) : Prop := ∃ r, steps q st (first x) = some ⟨0, r⟩ ∧ r 0 = y
omit h1 h2 in
theorem LoopAt.start (q : List I) (x : T) : LoopAt q x 0 x := ⟨_, rfl, rfl⟩

omit h2 in
theorem while_ask (hm : mc ≤ n) {y : T} {r : Nat → T} (hr : r 0 = y) :
    ∃ r', steps (whileI n mc mp c p) mc ⟨0, r⟩ = some ⟨mc, r'⟩ ∧ Clean mc y r' ∧ r' n = y := by
  have e0 : Emb (whileI n mc mp c p) 0 [.move n 0] := Emb.left _ _
  have e1 : Emb (whileI n mc mp c p) 1 (cleanI mc) := (Emb.left _ _).skip rfl
  have s0 : steps (whileI n mc mp c p) 1 ⟨0, r⟩ = some ⟨1, upd r n (r 0)⟩ := steps_one (by rw [step_at (e0.one)]; rfl)
  obtain ⟨r', s1, c1, k1⟩ := run_clean' e1 (upd r n (r 0))
  have hr0 : upd r n (r 0) 0 = y := by unfold upd; rw [if_neg (by omega), hr]
  rw [hr0] at c1
  refine ⟨r', ?_, c1, by rw [k1 n hm (by omega)]; unfold upd; rw [if_pos rfl, hr]⟩
  have := steps_then s0 s1
  rwa [show 1 + (mc - 1) = mc by omega] at this

omit h2 in
theorem while_cond (hc : WF c) (hmc : mc = regsOf c) (hm : mc ≤ n) {y z : T} {k : Nat} {r : Nat → T} (hr : r 0 = y) (hz : play c 300 0 (first y) = .ended z k) :
    ∃ r', steps (whileI n mc mp c p) (k + mc + 1) ⟨0, r⟩ = some ⟨if z = .nil then mc + c.length + 1 else mc + c.length + 4, r'⟩ ∧ r' n = y := by
  obtain ⟨r1, s1, c1, k1⟩ := while_ask (mp := mp) (c := c) (p := p) h1 hm hr
  have e2 : Emb (whileI n mc mp c p) mc c := ((Emb.left _ _).skip rfl).skip (by rw [cleanI_length]; simp; omega)
  have e3 : Emb (whileI n mc mp c p) (mc + c.length) [.jump 0 4] := (((Emb.left _ _).skip rfl).skip rfl).skip (by rw [cleanI_length]; simp; omega)
  obtain ⟨r2, s2, z2, k2⟩ := run_ended e2 hc hz (by rw [← hmc]; exact c1)
  have s3 : steps (whileI n mc mp c p) 1 ⟨mc + c.length, r2⟩ = some ⟨if z = .nil then mc + c.length + 1 else mc + c.length + 4, r2⟩ := steps_one (by
    rw [step_at (e3.one)]; simp only [step1, z2]
    congr 2)
  refine ⟨r2, ?_, by rw [k2 n (by omega), k1]⟩
  have := steps_then (steps_then s1 s2) s3
  rwa [show mc + k + 1 = k + mc + 1 by omega] at this

theorem loop_ends (hc : WF c) (hmc : mc = regsOf c) (hm : mc ≤ n) {x y : T} {st k : Nat} (h : LoopAt (whileI n mc mp c p) x st y) (hz : play c 300 0 (first y) = .ended .nil k) :
    play (whileI n mc mp c p) (st + (k + mc + 1) + 3) 0 (first x) = .ended y (st + (k + mc + 1) + 3) := by
  obtain ⟨r, s0, hr⟩ := h
  obtain ⟨r1, s1, k1⟩ := while_cond (mp := mp) (p := p) h1 hc hmc hm hr hz
  rw [if_pos rfl] at s1
  have e1 : Emb (whileI n mc mp c p) (mc + c.length + 1) [.move 0 n] := ((((Emb.left _ _).skip rfl).skip rfl).skip rfl).skip (by rw [cleanI_length]; simp; omega)
  have e2 : Emb (whileI n mc mp c p) (mc + c.length + 2) [.set n (.pair .nil .nil)] := (((((Emb.left _ _).skip rfl).skip rfl).skip rfl).skip rfl).skip (by rw [cleanI_length]; simp; omega)
  have e3 : Emb (whileI n mc mp c p) (mc + c.length + 3) [.jump n (((mp + p.length : Nat) : Int) + 3)] := ((((((Emb.left _ _).skip rfl).skip rfl).skip rfl).skip rfl).skip rfl).skip (by rw [cleanI_length]; simp; omega)
  have hn1 : 1 ≤ n := by omega
  have s2 := steps_one (q := whileI n mc mp c p) (s := ⟨mc + c.length + 1, r1⟩) (t := ⟨mc + c.length + 2, upd r1 0 (r1 n)⟩) (by rw [step_at (e1.one)]; rfl)
  have s3 := steps_one (q := whileI n mc mp c p) (s := ⟨mc + c.length + 2, upd r1 0 (r1 n)⟩) (t := ⟨mc + c.length + 3, upd (upd r1 0 (r1 n)) n (.pair .nil .nil)⟩) (by rw [step_at (e2.one)]; rfl)
  have s4 := steps_one (q := whileI n mc mp c p) (s := ⟨mc + c.length + 3, upd (upd r1 0 (r1 n)) n (.pair .nil .nil)⟩) (t := ⟨mc + c.length + 4 + mp + p.length + 2, upd (upd r1 0 (r1 n)) n (.pair .nil .nil)⟩) (by
    rw [step_at (e3.one)]; simp only [step1, upd, if_true, if_neg (show ¬ T.pair .nil .nil = .nil by simp)]
    congr 2; omega)
  refine (play_ended _ _ _ _ _ _).2 ⟨_, _, Nat.le_refl _, by omega, steps_then (steps_then s0 s1) (steps_then (steps_then s2 s3) s4), by rw [while_len h1 h2], ?_⟩
  simp only [upd]
  rw [if_neg (by omega), if_true, k1]

theorem while_work (hc : WF c) (hmc : mc = regsOf c) (hm : mc ≤ n) {y z : T} {k : Nat} {r : Nat → T} (hr : r 0 = y) (hz : play c 300 0 (first y) = .ended z k) (hz' : z ≠ .nil) :
    ∃ r', steps (whileI n mc mp c p) (k + mc + 1 + mp) ⟨0, r⟩ = some ⟨mc + c.length + 4 + mp, r'⟩ ∧ Clean mp y r' := by
  obtain ⟨r1, s1, k1⟩ := while_cond (mp := mp) (p := p) h1 hc hmc hm hr hz
  rw [if_neg hz'] at s1
  have e1 : Emb (whileI n mc mp c p) (mc + c.length + 4) [.move 0 n] := (((((((Emb.left _ _).skip rfl).skip rfl).skip rfl).skip rfl).skip rfl).skip rfl).skip (by rw [cleanI_length]; simp; omega)
  have e2 : Emb (whileI n mc mp c p) (mc + c.length + 5) (cleanI mp) := ((((((((Emb.left _ _).skip rfl).skip rfl).skip rfl).skip rfl).skip rfl).skip rfl).skip rfl).skip (by rw [cleanI_length]; simp; omega)
  have s2 := steps_one (q := whileI n mc mp c p) (s := ⟨mc + c.length + 4, r1⟩) (t := ⟨mc + c.length + 5, upd r1 0 (r1 n)⟩) (by rw [step_at (e1.one)]; rfl)
  obtain ⟨r3, s3, c3, _⟩ := run_clean' e2 (upd r1 0 (r1 n))
  have hr0 : upd r1 0 (r1 n) 0 = y := by unfold upd; rw [if_pos rfl, k1]
  rw [hr0] at c3
  refine ⟨r3, ?_, c3⟩
  have := steps_then s1 (steps_then s2 s3)
  rwa [show k + mc + 1 + (1 + (mp - 1)) = k + mc + 1 + mp by omega, show mc + c.length + 5 + (mp - 1) = mc + c.length + 4 + mp by omega] at this

theorem loop_next (hc : WF c) (hp : WF p) (hmc : mc = regsOf c) (hmp : mp = regsOf p) (hm : mc ≤ n) {x y z v : T} {st k j : Nat} (h : LoopAt (whileI n mc mp c p) x st y)
    (hz : play c 300 0 (first y) = .ended z k) (hz' : z ≠ .nil) (hv : play p 300 0 (first y) = .ended v j) : LoopAt (whileI n mc mp c p) x (st + (k + mc + 1) + (j + mp + 2)) v := by
  obtain ⟨r, s0, hr⟩ := h
  obtain ⟨r1, s1, c1⟩ := while_work (p := p) h1 h2 hc hmc hm hr hz hz'
  have e2 : Emb (whileI n mc mp c p) (mc + c.length + 4 + mp) p := (((((((((Emb.left _ _).skip rfl).skip rfl).skip rfl).skip rfl).skip rfl).skip rfl).skip rfl).skip rfl).skip (by simp only [cleanI_length, List.length_cons, List.length_nil]; omega)
  have e3 : Emb (whileI n mc mp c p) (mc + c.length + 4 + mp + p.length) [.set n (.pair .nil .nil)] := ((((((((((Emb.left _ _).skip rfl).skip rfl).skip rfl).skip rfl).skip rfl).skip rfl).skip rfl).skip rfl).skip rfl).skip (by simp only [cleanI_length, List.length_cons, List.length_nil]; omega)
  have e4 : Emb (whileI n mc mp c p) (mc + c.length + 4 + mp + p.length + 1) [.jump n (-((mc + c.length + 4 + mp + p.length : Nat) : Int) - 1)] := (((((((((((Emb.all _).skip rfl).skip rfl).skip rfl).skip rfl).skip rfl).skip rfl).skip rfl).skip rfl).skip rfl).skip rfl).skip (by simp only [cleanI_length, List.length_cons, List.length_nil]; omega)
  obtain ⟨r2, s2, z2, _⟩ := run_ended e2 hp hv (by rw [← hmp]; exact c1)
  have hn1 : 1 ≤ n := by omega
  have s3 := steps_one (q := whileI n mc mp c p) (s := ⟨mc + c.length + 4 + mp + p.length, r2⟩) (t := ⟨mc + c.length + 4 + mp + p.length + 1, upd r2 n (.pair .nil .nil)⟩) (by rw [step_at (e3.one)]; rfl)
  have s4 := steps_one (q := whileI n mc mp c p) (s := ⟨mc + c.length + 4 + mp + p.length + 1, upd r2 n (.pair .nil .nil)⟩) (t := ⟨0, upd r2 n (.pair .nil .nil)⟩) (by
    rw [step_at (e4.one)]; simp only [step1, upd, if_true, if_neg (show ¬ T.pair .nil .nil = .nil by simp)]
    congr 2; omega)
  refine ⟨upd r2 n (.pair .nil .nil), ?_, by unfold upd; rw [if_neg (by omega), z2]⟩
  have := steps_then s0 (steps_then s1 (steps_then s2 (steps_then s3 s4)))
  rwa [show st + (k + mc + 1 + mp + (j + (1 + 1))) = st + (k + mc + 1) + (j + mp + 2) by omega] at this

theorem loop_c (hc : WF c) (hmc : mc = regsOf c) (hm : mc ≤ n) {x y : T} {st j : Nat} (h : LoopAt (whileI n mc mp c p) x st y) (hz : play c 300 0 (first y) = .going j) :
    ∀ y j, play (whileI n mc mp c p) 300 0 (first x) ≠ .ended y j := by
  obtain ⟨r, s0, hr⟩ := h
  obtain ⟨r1, s1, c1, k1⟩ := while_ask (mp := mp) (c := c) (p := p) h1 hm hr
  have e2 : Emb (whileI n mc mp c p) mc c := ((Emb.left _ _).skip rfl).skip (by rw [cleanI_length]; simp; omega)
  obtain ⟨v, s2, hv⟩ := run_going e2 hc hz (by rw [← hmc]; exact c1)
  exact not_ended (steps_then s0 (steps_then s1 s2)) (by rw [while_len h1 h2]; omega) (by omega)

theorem loop_p (hc : WF c) (hp : WF p) (hmc : mc = regsOf c) (hmp : mp = regsOf p) (hm : mc ≤ n) {x y z : T} {st k j : Nat} (h : LoopAt (whileI n mc mp c p) x st y)
    (hz : play c 300 0 (first y) = .ended z k) (hz' : z ≠ .nil) (hv : play p 300 0 (first y) = .going j) : ∀ y j, play (whileI n mc mp c p) 300 0 (first x) ≠ .ended y j := by
  obtain ⟨r, s0, hr⟩ := h
  obtain ⟨r1, s1, c1⟩ := while_work (p := p) h1 h2 hc hmc hm hr hz hz'
  have e2 : Emb (whileI n mc mp c p) (mc + c.length + 4 + mp) p := (((((((((Emb.left _ _).skip rfl).skip rfl).skip rfl).skip rfl).skip rfl).skip rfl).skip rfl).skip rfl).skip (by simp only [cleanI_length, List.length_cons, List.length_nil]; omega)
  obtain ⟨v, s2, hv⟩ := run_going e2 hp hv (by rw [← hmp]; exact c1)
  exact not_ended (steps_then s0 (steps_then s1 s2)) (by rw [while_len h1 h2]; omega) (by omega)
end
end Go.Proofs.Ytgbieakahgkkpaa
