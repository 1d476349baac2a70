/- Programs of the document as Lean lists: instructions as the program has them, instructions of a valid program, the machine that runs them. No memory in sight. -/
import Derived.Test.YtgbieakahgkkpaaTree
namespace Go.Proofs.Ytgbieakahgkkpaa

def T.str (t : T) : ByteArray := ⟨t.bytes.toArray⟩
theorem T.str_list (t : T) : t.str.data.toList = t.bytes := rfl
theorem T.str_size (t : T) : t.str.size = t.size := by rw [← T.bytes_length]; rfl

/-- An instruction, as the program has it. -/
structure Ins where
  op : Int
  a : Int
  b : Int
  c : Int
  tree : ByteArray

/-- An instruction of a valid program. -/
inductive I where
  | set (a : Nat) (t : T)
  | move (a b : Nat)
  | cons (a b c : Nat)
  | head (a b : Nat)
  | tail (a b : Nat)
  | jump (a : Nat) (d : Int)
  deriving DecidableEq, Inhabited

def I.enc : I → Ins
  | .set a t => ⟨0, a, 0, 0, t.str⟩
  | .move a b => ⟨1, a, b, 0, ByteArray.empty⟩
  | .cons a b c => ⟨2, a, b, c, ByteArray.empty⟩
  | .head a b => ⟨3, a, b, 0, ByteArray.empty⟩
  | .tail a b => ⟨4, a, b, 0, ByteArray.empty⟩
  | .jump a d => ⟨5, a, d, 0, ByteArray.empty⟩

def reg (n : Int) : Prop := 0 ≤ n ∧ n < 32

/-- The rule of an instruction at place i of n. -/
def okIns (x : Ins) (i n : Int) : Prop :=
  reg x.a ∧ (x.op = 0 ∨ x.tree.size = 0) ∧ (x.op = 2 ∨ x.c = 0) ∧
  ((x.op = 0 ∧ (parse x.tree.data.toList).isSome = true ∧ x.b = 0) ∨ ((x.op = 1 ∨ x.op = 3 ∨ x.op = 4) ∧ reg x.b) ∨ (x.op = 2 ∧ reg x.b ∧ reg x.c) ∨ (x.op = 5 ∧ -i ≤ x.b ∧ x.b ≤ n - i))

def wfI (i n : Nat) : I → Prop
  | .set a _ => a < 32
  | .move a b => a < 32 ∧ b < 32
  | .cons a b c => a < 32 ∧ b < 32 ∧ c < 32
  | .head a b => a < 32 ∧ b < 32
  | .tail a b => a < 32 ∧ b < 32
  | .jump a d => a < 32 ∧ -(i : Int) ≤ d ∧ d ≤ (n : Int) - i

def I.chars : I → Nat
  | .set _ t => t.size
  | _ => 0

theorem empty_of_size {s : ByteArray} (h : s.size = 0) : s = ByteArray.empty := by
  obtain ⟨d⟩ := s
  have : d = #[] := Array.eq_empty_of_size_eq_zero h
  subst this; rfl

theorem okIns_enc {y : I} {i n : Nat} (h : wfI i n y) : okIns y.enc i n := by
  cases y with
  | set a t =>
    simp only [wfI] at h
    refine ⟨⟨by simp [I.enc], by simp [I.enc]; omega⟩, .inl rfl, .inr rfl, .inl ⟨rfl, ?_, rfl⟩⟩
    simp [I.enc, T.str_list, parse_bytes]
  | move a b => simp only [wfI] at h; exact ⟨⟨by simp [I.enc], by simp [I.enc]; omega⟩, .inr rfl, .inr rfl, .inr (.inl ⟨.inl rfl, by simp [I.enc, reg]; omega⟩)⟩
  | cons a b c => simp only [wfI] at h; exact ⟨⟨by simp [I.enc], by simp [I.enc]; omega⟩, .inr rfl, .inl rfl, .inr (.inr (.inl ⟨rfl, by simp [I.enc, reg]; omega, by simp [I.enc, reg]; omega⟩))⟩
  | head a b => simp only [wfI] at h; exact ⟨⟨by simp [I.enc], by simp [I.enc]; omega⟩, .inr rfl, .inr rfl, .inr (.inl ⟨.inr (.inl rfl), by simp [I.enc, reg]; omega⟩)⟩
  | tail a b => simp only [wfI] at h; exact ⟨⟨by simp [I.enc], by simp [I.enc]; omega⟩, .inr rfl, .inr rfl, .inr (.inl ⟨.inr (.inr rfl), by simp [I.enc, reg]; omega⟩)⟩
  | jump a d => simp only [wfI] at h; exact ⟨⟨by simp [I.enc], by simp [I.enc]; omega⟩, .inr rfl, .inr rfl, .inr (.inr (.inr ⟨rfl, by simp [I.enc]; omega, by simp [I.enc]; omega⟩))⟩

theorem okIns_dec {x : Ins} {i n : Nat} (h : okIns x i n) : ∃ y : I, x = y.enc ∧ wfI i n y := by
  obtain ⟨op, a, b, c, tr⟩ := x
  obtain ⟨⟨ha, ha'⟩, ht, hc, h⟩ := h
  simp only at ha ha' ht hc h
  obtain ⟨a', rfl⟩ : ∃ a' : Nat, a = a' := ⟨a.toNat, by omega⟩
  rcases h with ⟨rfl, hp, rfl⟩ | ⟨hop, hb, hb'⟩ | ⟨rfl, ⟨hb, hb'⟩, hc0, hc1⟩ | ⟨rfl, hb, hb'⟩
  · obtain ⟨t, ht'⟩ := Option.isSome_iff_exists.1 hp
    refine ⟨.set a' t, ?_, by simp only [wfI]; omega⟩
    have e := parse_sound ht'
    have hs : tr = t.str := by
      obtain ⟨d⟩ := tr
      unfold T.str
      rw [← e]
    have hc' : c = 0 := by rcases hc with h | h <;> omega
    simp [I.enc, hs, hc']
  · obtain ⟨b', rfl⟩ : ∃ b' : Nat, b = b' := ⟨b.toNat, by omega⟩
    have hc' : c = 0 := by rcases hc with h | h <;> omega
    have ht' : tr = ByteArray.empty := empty_of_size (by rcases ht with h | h <;> omega)
    subst hc' ht'
    rcases hop with rfl | rfl | rfl
    · exact ⟨.move a' b', rfl, by simp only [wfI]; omega⟩
    · exact ⟨.head a' b', rfl, by simp only [wfI]; omega⟩
    · exact ⟨.tail a' b', rfl, by simp only [wfI]; omega⟩
  · obtain ⟨b', rfl⟩ : ∃ b' : Nat, b = b' := ⟨b.toNat, by omega⟩
    obtain ⟨c', rfl⟩ : ∃ c' : Nat, c = c' := ⟨c.toNat, by omega⟩
    have ht' : tr = ByteArray.empty := empty_of_size (by rcases ht with h | h <;> omega)
    subst ht'
    exact ⟨.cons a' b' c', rfl, by simp only [wfI]; omega⟩
  · have hc' : c = 0 := by rcases hc with h | h <;> omega
    have ht' : tr = ByteArray.empty := empty_of_size (by rcases ht with h | h <;> omega)
    subst hc' ht'
    exact ⟨.jump a' b, rfl, by simp only [wfI]; omega⟩

theorem I.enc_inj : ∀ {x y : I}, x.enc = y.enc → x = y := by
  intro x y h
  cases x <;> cases y <;> simp only [I.enc, Ins.mk.injEq] at h <;> first | (exfalso; omega) | skip
  · obtain ⟨_, h1, _, _, h2⟩ := h
    have e : (⟨_⟩ : ByteArray) = ⟨_⟩ := h2
    injection e with e
    have := T.bytes_inj (by simpa using e)
    simp [this]; omega
  all_goals (simp; omega)

/-- How many characters the trees of a program have. -/
def treeSum (p : List Ins) : Nat := (p.map fun x => x.tree.size).sum

/-- A program of the rules, with limits. -/
def goodP (p : List Ins) (most chars : Nat) : Prop := p.length ≤ most ∧ treeSum p ≤ chars ∧ ∀ (i : Nat) (x : Ins), p[i]? = some x → okIns x i p.length

/-- The program as a list of instructions of the machine. -/
def WF (q : List I) : Prop := ∀ (i : Nat) (x : I), q[i]? = some x → wfI i q.length x
def charsOf (q : List I) : Nat := (q.map I.chars).sum
def encP (q : List I) : List Ins := q.map I.enc

theorem encP_length (q : List I) : (encP q).length = q.length := by simp [encP]
theorem enc_tree (x : I) : x.enc.tree.size = x.chars := by cases x <;> simp [I.enc, I.chars, T.str_size]
theorem treeSum_enc (q : List I) : treeSum (encP q) = charsOf q := by
  simp only [treeSum, encP, charsOf, List.map_map]
  congr 1
  apply List.map_congr_left
  intro x _
  exact enc_tree x
theorem encP_inj {q q' : List I} (h : encP q = encP q') : q = q' := (List.map_inj_right (fun _ _ h => I.enc_inj h)).1 h

theorem decAll : ∀ (p : List Ins) (k n : Nat), (∀ (i : Nat) (x : Ins), p[i]? = some x → okIns x (k + i : Nat) n) → ∃ q : List I, p = encP q ∧ ∀ (i : Nat) (x : I), q[i]? = some x → wfI (k + i) n x
  | [], _, _, _ => ⟨[], rfl, fun i x h => by simp at h⟩
  | x :: p, k, n, h => by
    obtain ⟨y, hy, hw⟩ := okIns_dec (h 0 x rfl)
    obtain ⟨q, hq, hw'⟩ := decAll p (k + 1) n (fun i z hz => by have := h (i + 1) z (by simpa using hz); rwa [show k + (i + 1) = k + 1 + i by omega] at this)
    refine ⟨y :: q, by rw [hy, hq]; rfl, ?_⟩
    intro i z hz
    match i, hz with
    | 0, hz => simp at hz; subst hz; exact hw
    | i + 1, hz => have := hw' i z (by simpa using hz); rwa [show k + (i + 1) = k + 1 + i by omega]

theorem goodP_iff {p : List Ins} {most chars : Nat} : goodP p most chars ↔ ∃ q, p = encP q ∧ WF q ∧ q.length ≤ most ∧ charsOf q ≤ chars := by
  constructor
  · rintro ⟨h1, h2, h3⟩
    obtain ⟨q, rfl, hw⟩ := decAll p 0 p.length (fun i x h => by rw [Nat.zero_add]; exact h3 i x h)
    rw [encP_length] at h1 hw
    exact ⟨q, rfl, fun i x h => by have := hw i x h; rwa [Nat.zero_add] at this, h1, by rwa [treeSum_enc] at h2⟩
  · rintro ⟨q, rfl, hw, h1, h2⟩
    refine ⟨by rwa [encP_length], by rwa [treeSum_enc], ?_⟩
    intro i x h
    rw [encP_length]
    simp only [encP, List.getElem?_map, Option.map_eq_some_iff] at h
    obtain ⟨y, hy, rfl⟩ := h
    exact okIns_enc (hw i y hy)

/-- The greatest register. -/
def regStep (m : Int) (x : Ins) : Int := if x.op = 5 then max m x.a else max (max (max m x.a) x.b) x.c
def regsMax (p : List Ins) : Int := p.foldl regStep 0

def I.regs : I → Nat
  | .set a _ => a
  | .move a b => max a b
  | .cons a b c => max (max a b) c
  | .head a b => max a b
  | .tail a b => max a b
  | .jump a _ => a
def mostReg (q : List I) : Nat := q.foldl (fun m x => max m x.regs) 0
def regsOf (q : List I) : Nat := mostReg q + 1

theorem regStep_enc (m : Nat) (x : I) : regStep m x.enc = ((max m x.regs : Nat) : Int) := by
  cases x <;> simp only [I.enc, regStep, I.regs] <;> simp <;> omega
theorem regsMax_enc (q : List I) : regsMax (encP q) = mostReg q := by
  have : ∀ (q : List I) (m : Nat), (encP q).foldl regStep (m : Int) = ((q.foldl (fun m x => max m x.regs) m : Nat) : Int) := by
    intro q
    induction q with
    | nil => intro m; rfl
    | cons x q ih => intro m; simp only [encP, List.map_cons, List.foldl_cons] at ih ⊢; rw [regStep_enc]; exact ih _
  exact this q 0
theorem regs_lt {i n : Nat} {x : I} (h : wfI i n x) : x.regs < 32 := by cases x <;> simp only [wfI, I.regs] at * <;> omega
theorem foldl_max_le : ∀ (q : List I) (m b : Nat), m ≤ b → (∀ x ∈ q, x.regs ≤ b) → q.foldl (fun m x => max m x.regs) m ≤ b
  | [], _, _, h, _ => h
  | x :: q, m, b, h, hq => foldl_max_le q _ b (by have := hq x (by simp); show max m x.regs ≤ b; omega) (fun y hy => hq y (by simp [hy]))
theorem le_foldl_max : ∀ (q : List I) (m : Nat), m ≤ q.foldl (fun m x => max m x.regs) m
  | [], _ => Nat.le_refl _
  | x :: q, m => by have := le_foldl_max q (max m x.regs); simp only [List.foldl_cons]; omega
theorem mem_le_foldl_max : ∀ (q : List I) (m : Nat) (x : I), x ∈ q → x.regs ≤ q.foldl (fun m x => max m x.regs) m
  | y :: q, m, x, h => by
    simp only [List.foldl_cons]
    rcases List.mem_cons.1 h with rfl | h
    · have := le_foldl_max q (max m x.regs); omega
    · exact mem_le_foldl_max q _ x h
theorem mostReg_lt {q : List I} (h : WF q) : mostReg q < 32 := by
  have : mostReg q ≤ 31 := foldl_max_le q 0 31 (by omega) (fun x hx => by
    obtain ⟨i, hi, hx⟩ := List.mem_iff_getElem.1 hx
    have := regs_lt (h i x (by rw [List.getElem?_eq_getElem hi, hx])); omega)
  omega
theorem mem_regs_lt {q : List I} {x : I} (h : x ∈ q) : x.regs < regsOf q := by
  have := mem_le_foldl_max q 0 x h
  unfold regsOf mostReg; omega

/-! ### The machine -/

structure St where
  pc : Nat
  r : Nat → T

def upd (r : Nat → T) (a : Nat) (t : T) : Nat → T := fun i => if i = a then t else r i

def MaxT : Nat := 2000000

def step1 (x : I) (s : St) : Option St :=
  match x with
  | .set a t => some ⟨s.pc + 1, upd s.r a t⟩
  | .move a b => some ⟨s.pc + 1, upd s.r a (s.r b)⟩
  | .cons a b c => if (s.r b).size + (s.r c).size < MaxT then some ⟨s.pc + 1, upd s.r a (.pair (s.r b) (s.r c))⟩ else none
  | .head a b => some ⟨s.pc + 1, upd s.r a (s.r b).head⟩
  | .tail a b => some ⟨s.pc + 1, upd s.r a (s.r b).tail⟩
  | .jump a d => some ⟨if s.r a = .nil then s.pc + 1 else ((s.pc : Int) + d).toNat, s.r⟩

def step (q : List I) (s : St) : Option St := match q[s.pc]? with
  | some x => step1 x s
  | none => none

inductive Out where
  | ended (y : T) (k : Nat)
  | going (k : Nat)
  | large (k : Nat)
  deriving DecidableEq

/-- The characters of the registers together. -/
def sumR (r : Nat → T) : Nat := ((List.range 32).map fun i => (r i).size).sum

/-- The first state. -/
def first (x : T) : St := ⟨0, fun i => if i = 0 then x else .nil⟩

/-- A run with fuel, and the greatest sum of characters. -/
def follow (q : List I) (f k m : Nat) (s : St) : Out × Nat :=
  if s.pc = q.length then (.ended (s.r 0) k, m)
  else match f with
    | 0 => (.going k, m)
    | f + 1 => match step q s with
      | none => (.large k, MaxT)
      | some s' => follow q f (k + 1) (max m (sumR s'.r)) s'

def play (q : List I) (f k : Nat) (s : St) : Out :=
  if s.pc = q.length then .ended (s.r 0) k
  else match f with
    | 0 => .going k
    | f + 1 => match step q s with
      | none => .large k
      | some s' => play q f (k + 1) s'

theorem follow_play (q : List I) : ∀ (f k m : Nat) (s : St), (follow q f k m s).1 = play q f k s
  | 0, k, m, s => by unfold follow play; split <;> rfl
  | f + 1, k, m, s => by
    unfold follow play
    split
    · rfl
    · cases hs : step q s with
      | none => rfl
      | some s' => exact follow_play q f _ _ _

theorem wf_pc {q : List I} {s s' : St} (h : WF q) (hs : s.pc < q.length) (e : step q s = some s') : s'.pc ≤ q.length := by
  unfold step at e
  rw [List.getElem?_eq_getElem hs] at e
  have hw := h s.pc _ (List.getElem?_eq_getElem hs)
  simp only at e
  cases hx : q[s.pc] with
  | cons a b c =>
    rw [hx] at e; simp only [step1] at e
    split at e
    · cases e; simp; omega
    · cases e
  | jump a d =>
    rw [hx] at e hw; simp only [step1, Option.some.injEq] at e; subst e; simp only [wfI] at hw
    simp only
    split <;> omega
  | _ => rw [hx] at e; simp only [step1, Option.some.injEq] at e; subst e; simp; omega

end Go.Proofs.Ytgbieakahgkkpaa
