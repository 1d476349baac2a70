import Derived.Test.YtgbieakahgkkpaaProg
import Derived.Test.YtgbieakahgkkpaaPMem
import Derived.Test.YtgbieakahgkkpaaBuildE
import Derived.Test.YtgbieakahgkkpaaTopF
import Derived.WalkKit
import Derived.WalkSpells
import Derived.WalkLawsBesides
import Derived.Outline
import Derived.KernelRfl
namespace Go.Proofs.Ytgbieakahgkkpaa
open Go.RowKit

set_option maxRecDepth 100000 in
/-- twin: a program in new memory. -/
theorem twin_any (w : World) (n cap : Nat) (A : Option Addr) (p : List Ins) (h : PMem w w.heap.size A n p) (hn : n ≤ 100000) : Calls Try.prog 38 #[.slice A n cap] w (SliceN p n w) := by
  obtain ⟨i0, hi0, hz0, hz1, hz2⟩ := info_parts info41
  have hown : ∀ W : World, (W.alloc (.cells #[] 41)).ownsRow W.heap.size 41 5 (.slice (some ⟨W.heap.size, 0, none⟩) 0 0) 0 [] := fun W => ⟨rfl, .inr ⟨W.heap.size, 0, #[], rfl, Nat.le_refl _, heap_alloc_new W _, Nat.le_refl _, by decide, rfl, rfl⟩⟩
  have HO := hide hown
  have hr := (h.alloc (Nat.le_refl _) (.cells #[] 41)).2
  clear hown h
  go_enter Try.func38, Try.ntmps38
  go_wp2_with ((at_builtin; refine wpList_append_any _ rfl _ _ _ rfl w.heap.size 41 i0 (.agg #[.int .i64 0, .int .i64 0, .int .i64 0, .int .i64 0, .string ByteArray.empty]) 5 48 Try.underlying23 hi0 hz0 hz1 hz2 rfl (by omega) _ _ _ rfl (HO.out w) w.heap.size A n cap (progCells p) rfl hr (progCells_one _) (by unfold maxLen; omega) (by omega) (by simp) ?_; intro v1 w1 r1 g1 hat1))
  obtain ⟨A1, k1, rfl, _⟩ := own_shape r1
  go_ret
  rw [Nat.zero_add] at r1
  exact ⟨A1, k1, by rw [Nat.zero_add]; rfl, r1, ((Below.refl _ _).alloc (Nat.le_refl _) _).grown g1 (by simp) (fun k hk => ((HO.out w).lt k hk).1)⟩

/-- tail: the program that returns the tail. -/
theorem ttail_any (w : World) : Calls Try.prog 97 #[] w (SliceN (encP [.tail 0 0]) 1 w) := by
  go_enter Try.func97, Try.ntmps97
  go_wp2
  go_ret
  exact ⟨_, 1, rfl, ⟨rfl, .inr ⟨w.heap.size, 1, _, rfl, Nat.le_refl _, heap_alloc_new w _, Nat.le_refl _, by decide, rfl, rfl⟩⟩, (Below.refl _ _).alloc (Nat.le_refl _) _⟩

/-- What play hands back. -/
def PlayPost (ty : TypeId) (r : Out) (w : World) (e : Ending) (w' : World) : Prop :=
  ∃ p k how, e = .returned (.tuple #[.pointer p, .int .i64 k, .int .i64 how]) ∧ Below w.heap.size w w' ∧
    match r with
    | .ended y j => how = 0 ∧ k = j ∧ Rep ty w' p y
    | .going j => how = 1 ∧ k = j ∧ p = none
    | .large j => how = 2 ∧ k = j ∧ p = none

set_option maxRecDepth 100000 in
theorem play_any (w : World) (n cap : Nat) (A : Option Addr) (q : List I) (fuel : Nat) (p : Option Addr) (x : T) (h : PMem w w.heap.size A n (encP q)) (hw : WF q) (hq : charsOf q ≤ 2000000) (hn : n ≤ 4000)
    (hx : Rep 102 w p x) (hxs : x.size ≤ 100000000) (hf : fuel ≤ 1000000000) :
    Calls Try.prog 24 #[.slice A n cap, .pointer p, .int .i64 fuel] w (PlayPost 102 (play q fuel 0 (first x)) w) := by
  have hfol := follow_any w n cap A q fuel p x h hw hq hn hx hxs hf
  have HF := hide hfol
  have HP := hide (follow_play q fuel 0 (sumR (first x).r) (first x))
  clear hfol h hx
  go_enter Try.func24, Try.ntmps24
  go_wp2_with fail
  refine HF.out.mono ?_; rintro e w1 ⟨p1, k1, how1, rfl, hb1, hpost⟩
  have HPO := hide hpost
  clear hpost
  go_wp2
  go_ret3
  refine ⟨p1, k1, how1, rfl, hb1, ?_⟩
  rw [← HP.out]
  exact HPO.out
end Go.Proofs.Ytgbieakahgkkpaa
