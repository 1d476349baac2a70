/- How a text is read from its beginning: where the tree ends that begins there. No program in sight. -/
import Derived.Test.YtgbieakahgkkpaaTree
namespace Go.Proofs.Ytgbieakahgkkpaa

/-- The place behind o trees, counted from i; none: there are not so many. (o: at least 1) -/
def scanEnd : List UInt8 → Nat → Nat → Option Nat
  | [], _, _ => none
  | c :: s, o, i => if c = 48 then (if o = 1 then some (i + 1) else scanEnd s (o - 1) (i + 1)) else if c = 49 then scanEnd s (o + 1) (i + 1) else none

theorem scanEnd_tree (t : T) : ∀ (s : List UInt8) (o i : Nat), scanEnd (t.bytes ++ s) (o + 1) i = if o = 0 then some (i + t.size) else scanEnd s o (i + t.size) := by
  induction t with
  | nil => intro s o i; simp [T.bytes, scanEnd, T.size]
  | pair a b iha ihb =>
    intro s o i
    simp only [T.bytes, List.cons_append, List.append_assoc, scanEnd]
    rw [if_neg (by decide), if_pos (by simp), iha _ (o + 1), if_neg (by omega), ihb]
    simp only [T.size]
    rw [show i + 1 + a.size + b.size = i + (1 + a.size + b.size) by omega]

theorem scanEnd_sound : ∀ (s : List UInt8) (o i k : Nat), 1 ≤ o → scanEnd s o i = some k → ∃ (ts : List T) (r : List UInt8), s = (ts.map T.bytes).flatten ++ r ∧ ts.length = o ∧ k = i + (ts.map T.size).sum := by
  intro s
  induction s with
  | nil => intro o i k _ h; simp [scanEnd] at h
  | cons c s ih =>
    intro o i k ho h
    simp only [scanEnd] at h
    split at h
    · rename_i hc
      subst hc
      split at h
      · rename_i h1
        cases h
        exact ⟨[.nil], s, by simp [T.bytes], by simp [h1], by simp [T.size]⟩
      · obtain ⟨ts, r, hs, hl, hk⟩ := ih (o - 1) (i + 1) k (by omega) h
        exact ⟨.nil :: ts, r, by simp [T.bytes, hs], by simp [hl]; omega, by simp [T.size, hk]; omega⟩
    · split at h
      · rename_i hc
        subst hc
        obtain ⟨ts, r, hs, hl, hk⟩ := ih (o + 1) (i + 1) k (by omega) h
        match ts, hl with
        | a :: b :: ts, hl =>
          exact ⟨.pair a b :: ts, r, by simp [T.bytes, hs], by simp at hl; simp; omega, by simp [T.size, hk]; omega⟩
        | [_], hl => simp at hl; omega
      · cases h

theorem scanEnd_one {s : List UInt8} {i k : Nat} (h : scanEnd s 1 i = some k) : ∃ (t : T) (r : List UInt8), s = t.bytes ++ r ∧ k = i + t.size := by
  obtain ⟨ts, r, hs, hl, hk⟩ := scanEnd_sound s 1 i k (Nat.le_refl _) h
  match ts, hl with
  | [t], _ => exact ⟨t, r, by simpa using hs, by simpa using hk⟩

/-- A text is a tree just where it ends with the tree that begins it. -/
theorem valid_iff (s : List UInt8) : scanEnd s 1 0 = some s.length ↔ (parse s).isSome = true := by
  constructor
  · intro h
    obtain ⟨t, r, hs, hk⟩ := scanEnd_one h
    have hr : r = [] := by
      have := congrArg List.length hs
      rw [List.length_append, T.bytes_length] at this
      exact List.eq_nil_of_length_eq_zero (by omega)
    subst hr
    rw [hs, List.append_nil, parse_bytes]; rfl
  · intro h
    obtain ⟨t, ht⟩ := Option.isSome_iff_exists.1 h
    rw [parse_sound ht]
    have := scanEnd_tree t [] 0 0
    simp at this
    rw [this, T.bytes_length]

theorem scanEnd_le {s : List UInt8} {o i k : Nat} (ho : 1 ≤ o) (h : scanEnd s o i = some k) : i < k ∧ k ≤ i + s.length := by
  obtain ⟨ts, r, hs, hl, hk⟩ := scanEnd_sound s o i k ho h
  have h1 := congrArg List.length hs
  rw [List.length_append] at h1
  have h2 : ((ts.map T.bytes).flatten).length = (ts.map T.size).sum := by
    simp [List.length_flatten, List.map_map, Function.comp_def, T.bytes_length]
  have h3 := len_le_sum ts
  omega

end Go.Proofs.Ytgbieakahgkkpaa
