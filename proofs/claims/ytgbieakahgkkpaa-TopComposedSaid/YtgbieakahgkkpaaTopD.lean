import Derived.Test.YtgbieakahgkkpaaProg
import Derived.Test.YtgbieakahgkkpaaPMem
import Derived.Test.YtgbieakahgkkpaaTopA
import Derived.Test.YtgbieakahgkkpaaTopC
import Derived.WalkKit
import Derived.WalkSpells
import Derived.WalkLawsBesides
import Derived.Outline
import Derived.KernelRfl
namespace Go.Proofs.Ytgbieakahgkkpaa
open Go.RowKit

/-- What is handed back is a pointer that stands for a tree. -/
def TreeOut (ty : TypeId) (t : T) (w : World) (e : Ending) (w' : World) : Prop := ∃ p, e = .returned (.pointer p) ∧ Below w.heap.size w w' ∧ Rep ty w' p t

def T.num : Nat → T
  | 0 => .nil
  | n + 1 => .pair .nil (T.num n)
theorem T.num_size (n : Nat) : (T.num n).size = 2 * n + 1 := by
  induction n with
  | zero => rfl
  | succ n ih => simp [T.num, T.size, ih]; omega

set_option maxRecDepth 100000 in
/-- number: a number as a tree. -/
theorem number_any (w : World) (n : Int) (hn : n ≤ 10000000) : Calls Try.prog 99 #[.int .i64 n] w (TreeOut 102 (T.num n.toNat) w) := by
  go_enter Try.func99, Try.ntmps99
  go_wp2
  go_loopw [3, 4] (fun c i wr => ∃ (k : Nat) (p : Option Addr), (k : Int) ≤ max n 0 ∧ i = .int .i64 k ∧ c = .pointer p ∧ Rep 102 wr p (T.num k) ∧ Below w.heap.size w wr) (fun _ i _ => (n - intOf i).toNat)
  case atStart => exact ⟨0, none, by omega, rfl, rfl, rfl, Below.refl _ _⟩
  case round =>
    obtain ⟨k, p, hk, rfl, rfl, hp, hb⟩ := hrel
    by_cases hlt : (k : Int) < n
    · go_wp2_with (go_at_call 25; refine (pair_any _ none p .nil (T.num k) rfl hp (by rw [T.num_size]; simp [T.size]; omega)).mono ?_; rintro e w' ⟨rfl, rfl⟩)
      go_roundw
      case rel => exact ⟨k + 1, _, by omega, by go_num, rfl, Rep.pair_new rfl hp, hb.alloc hb.size _⟩
      case measure => simp [intOf]; omega
    · have e : n.toNat = k := by omega
      have E := hide e
      clear e
      go_wp2
      go_ret
      exact ⟨p, rfl, hb, by rw [E.out]; exact hp⟩

theorem str_beq (a b : T) : (a.str.toList == b.str.toList) = decide (a = b) := by
  have e : ∀ t : T, t.str.toList = t.bytes := fun t => by rw [ByteArray.toList_eq]; rfl
  rw [e, e, Bool.eq_iff_iff]
  simp only [beq_iff_eq, decide_eq_true_eq]
  exact ⟨T.bytes_inj, fun h => by rw [h]⟩

/-- equal: whether two trees are equal. -/
theorem equal_any (w : World) (p q : Option Addr) (a b : T) (ha : Rep 102 w p a) (hb : Rep 102 w q b) (hs : a.size ≤ 100000000) (hs' : b.size ≤ 100000000) :
    Calls Try.prog 27 #[.pointer p, .pointer q] w fun e w' => e = .returned (.bool (decide (a = b))) ∧ Below w.heap.size w w' := by
  by_cases h : a.size = b.size
  · have h1 : ((a.size : Int) == (b.size : Int)) = true := by rw [h]; simp
    have H := hide h
    clear h
    go_enter Try.func27, Try.ntmps27
    go_wp2_with fail
    refine (size_any _ _ _ ha).mono ?_; rintro e w' ⟨rfl, rfl⟩
    go_wp2_with fail
    refine (size_any _ _ _ hb).mono ?_; rintro e w' ⟨rfl, rfl⟩
    go_wp2_with fail
    refine (text_any _ _ _ ha hs).mono ?_; rintro e w1 ⟨rfl, hb1⟩
    go_wp2_with fail
    refine (text_any _ _ _ (hb.below hb1) hs').mono ?_; rintro e w2 ⟨rfl, hb2⟩
    go_wp2
    go_ret
    refine ⟨?_, hb1.trans (hb2.mono hb1.size)⟩
    exact congrArg (fun x => Ending.returned (Value.bool x)) (str_beq a b)
  · have h1 : ((a.size : Int) == (b.size : Int)) = false := by rw [beq_eq_false_iff_ne]; omega
    have hab : a ≠ b := fun e => h (by rw [e])
    have H := hide hab
    clear h hab
    go_enter Try.func27, Try.ntmps27
    go_wp2_with fail
    refine (size_any _ _ _ ha).mono ?_; rintro e w' ⟨rfl, rfl⟩
    go_wp2_with fail
    refine (size_any _ _ _ hb).mono ?_; rintro e w' ⟨rfl, rfl⟩
    go_wp2
    go_ret
    exact ⟨by simp [H.out], Below.refl _ _⟩
end Go.Proofs.Ytgbieakahgkkpaa
