/- Plain trees: the trees of the document as a Lean type, their text, and how a text is read from its end. No program in sight. -/
namespace Go.Proofs.Ytgbieakahgkkpaa

inductive T where
  | nil
  | pair (a b : T)
  deriving DecidableEq, Inhabited

namespace T
def size : T → Nat
  | nil => 1
  | pair a b => 1 + a.size + b.size

def bytes : T → List UInt8
  | nil => [48]
  | pair a b => 49 :: (a.bytes ++ b.bytes)

def head : T → T
  | nil => nil
  | pair a _ => a

def tail : T → T
  | nil => nil
  | pair _ b => b

theorem size_pos (t : T) : 1 ≤ t.size := by cases t <;> simp [size]; omega

theorem bytes_length (t : T) : t.bytes.length = t.size := by
  induction t with
  | nil => rfl
  | pair a b iha ihb => simp [bytes, size, iha, ihb]; omega

theorem head_size (t : T) : t.head.size ≤ t.size := by cases t <;> simp [head, size]; omega
theorem tail_size (t : T) : t.tail.size ≤ t.size := by cases t <;> simp [tail, size]
end T

/-- The trees of which a text is made, read from its end; the first one first. -/
def stk : List UInt8 → Option (List T)
  | [] => some []
  | c :: s => match stk s with
    | none => none
    | some l => if c = 48 then some (T.nil :: l) else if c = 49 then (match l with | a :: b :: r => some (T.pair a b :: r) | _ => none) else none

def parse (s : List UInt8) : Option T := match stk s with
  | some [t] => some t
  | _ => none

theorem stk_bytes (t : T) : ∀ (s : List UInt8) (l : List T), stk s = some l → stk (t.bytes ++ s) = some (t :: l) := by
  induction t with
  | nil => intro s l h; simp [T.bytes, stk, h]
  | pair a b iha ihb =>
    intro s l h
    have h1 := ihb s l h
    have h2 := iha _ _ h1
    simp [T.bytes, stk, h2]

theorem stk_sound : ∀ (s : List UInt8) (l : List T), stk s = some l → s = (l.map T.bytes).flatten := by
  intro s
  induction s with
  | nil => intro l h; simp [stk] at h; subst h; rfl
  | cons c s ih =>
    intro l h
    simp only [stk] at h
    cases hs : stk s with
    | none => rw [hs] at h; cases h
    | some l' =>
      rw [hs] at h
      have := ih l' hs
      simp only at h
      split at h
      · rename_i hc; cases h; subst hc; simp [T.bytes, ← this]
      · split at h
        · rename_i hc; subst hc
          split at h
          · cases h; rename_i a b r; rw [this]; simp [T.bytes]
          · cases h
        · cases h

theorem stk_size {s : List UInt8} {l : List T} (h : stk s = some l) : (l.map T.size).sum = s.length := by
  have := stk_sound s l h
  subst this
  simp [List.length_flatten, List.map_map, Function.comp_def, T.bytes_length]

theorem len_le_sum : ∀ l : List T, l.length ≤ (l.map T.size).sum
  | [] => Nat.le_refl _
  | t :: l => by have := len_le_sum l; have := t.size_pos; simp; omega

theorem stk_len {s : List UInt8} {l : List T} (h : stk s = some l) : l.length ≤ s.length := by
  have := stk_size h; have := len_le_sum l; omega

theorem parse_bytes (t : T) : parse t.bytes = some t := by
  have := stk_bytes t [] [] rfl
  simp at this
  simp [parse, this]

theorem parse_sound {s : List UInt8} {t : T} (h : parse s = some t) : s = t.bytes := by
  unfold parse at h
  split at h
  · rename_i t' h'; cases h; have := stk_sound _ _ h'; simpa using this
  · cases h

theorem parse_iff {s : List UInt8} {t : T} : parse s = some t ↔ s = t.bytes := ⟨parse_sound, fun h => h ▸ parse_bytes t⟩

theorem T.bytes_inj {a b : T} (h : a.bytes = b.bytes) : a = b := by
  have h1 := parse_bytes a
  rw [h, parse_bytes b] at h1
  cases h1; rfl

theorem parse_size {s : List UInt8} {t : T} (h : parse s = some t) : t.size = s.length := by
  rw [parse_sound h, T.bytes_length]

/-- One step from the end. -/
theorem stk_zero {s : List UInt8} {l : List T} (h : stk s = some l) : stk (48 :: s) = some (T.nil :: l) := by simp [stk, h]
theorem stk_one {s : List UInt8} {a b : T} {l : List T} (h : stk s = some (a :: b :: l)) : stk (49 :: s) = some (T.pair a b :: l) := by simp [stk, h]
theorem stk_one_none {s : List UInt8} {l : List T} (h : stk s = some l) (hl : l.length < 2) : stk (49 :: s) = none := by
  match l, hl with
  | [], _ => simp [stk, h]
  | [_], _ => simp [stk, h]
theorem stk_other {c : UInt8} {s : List UInt8} (h0 : c ≠ 48) (h1 : c ≠ 49) : stk (c :: s) = none := by
  simp only [stk]; cases stk s <;> simp [h0, h1]
theorem stk_none_append : ∀ (p : List UInt8) {s : List UInt8}, stk s = none → stk (p ++ s) = none
  | [], _, h => h
  | c :: p, s, h => by
    have := stk_none_append p h
    simp [stk, this]
theorem parse_none_of_drop {s : List UInt8} {k : Nat} (h : stk (s.drop k) = none) : parse s = none := by
  have := stk_none_append (s.take k) h
  rw [List.take_append_drop] at this
  simp [parse, this]

end Go.Proofs.Ytgbieakahgkkpaa
