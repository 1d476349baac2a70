import Derived.Test.YtgbieakahgkkpaaTopI
import Derived.WalkKit
import Derived.WalkSpells
import Derived.WalkLawsBesides
import Derived.Outline
import Derived.KernelRfl
namespace Go.Proofs.Ytgbieakahgkkpaa
open Go.RowKit

theorem tailP : thenIns 1 (encP [.tail 0 0]) (encP [.tail 0 0]) = encP [.tail 0 0, .tail 0 0] := rfl
theorem good_tail1 : goodP (encP [.tail 0 0]) 60 2000 := goodP_iff.2 ⟨_, rfl, fun i x h => by
  match i, h with
  | 0, h => simp at h; subst h; simp [wfI], by simp, by simp [charsOf, I.chars]⟩
theorem good_tail2 : goodP (encP [.tail 0 0, .tail 0 0]) 4000 2000000 := goodP_iff.2 ⟨_, rfl, fun i x h => by
  match i, h with
  | 0, h => simp at h; subst h; simp [wfI]
  | 1, h => simp at h; subst h; simp [wfI], by simp, by simp [charsOf, I.chars]⟩
theorem i64_tail1 : ∀ x ∈ encP [.tail 0 0], x.I64 := by
  intro x hx; simp [encP] at hx; subst hx; simp [Ins.I64, I.enc, Ytgbieakahgkkpaa.I64]
theorem i64_tail2 : ∀ x ∈ encP [.tail 0 0, .tail 0 0], x.I64 := by
  intro x hx; simp [encP] at hx; subst hx; simp [Ins.I64, I.enc, Ytgbieakahgkkpaa.I64]
def tA : T := .pair .nil (.pair .nil (.pair .nil .nil))
def tB : T := .pair .nil .nil
theorem growA : growSpec ⟨#[49, 48, 49, 48, 49, 48, 48]⟩ 10 = some tA := by decide +kernel
theorem growB : growSpec ⟨#[49, 48, 48]⟩ 10 = some tB := by decide +kernel
theorem playA : play [.tail 0 0, .tail 0 0] 2 0 (first tA) = .ended tB 2 := by decide +kernel

set_option maxHeartbeats 1000000 in
set_option maxRecDepth 100000 in
theorem composes_any (w : World) : Calls Try.prog 36 #[] w fun e w' => e = .returned (.bool true) ∧ Below w.heap.size w w' := by
  go_enter Try.func36, Try.ntmps36
  go_wp2_with fail
  refine (ttail_any w).mono ?_; rintro e w1 ⟨A1, c1, rfl, o1, hb1⟩
  have hp1 := PMem.of_own (p := encP [.tail 0 0]) rfl o1
  go_wp2_with fail
  refine (ttail_any w1).mono ?_; rintro e w2 ⟨A2, c2, rfl, o2, hb2⟩
  have hp2 := PMem.of_own (p := encP [.tail 0 0]) rfl o2
  have hp1' := (hp1.below hb2).more hb2.size
  have hb12 := hb1.trans (hb2.mono hb1.size)
  obtain ⟨w3, hw3⟩ : ∃ w3, w3 = w2.alloc (.cells #[.slice A1 1 c1, .slice A2 1 c2] 23) := ⟨_, rfl⟩
  have hs3 : w3.heap.size = w2.heap.size + 1 := by rw [hw3]; simp
  have hb3 : Below w.heap.size w w3 := by rw [hw3]; exact hb12.alloc hb12.size _
  have hblk : Blk w3 w2.heap.size 23 #[.slice A1 1 c1, .slice A2 1 c2] := by rw [hw3]; exact Blk.new _ _ _
  have hT := then_any w3 w2.heap.size 2 A1 A2 1 c1 1 c2 (encP [.tail 0 0]) (encP [.tail 0 0]) (by rw [hw3]; exact (hp1'.alloc (Nat.le_refl _) _).more (by simp)) (by rw [hw3]; exact (hp2.alloc (Nat.le_refl _) _).more (by simp)) (by omega)
    (by rw [hblk.cell]; rfl) (by rw [hblk.cell]; rfl) i64_tail1 i64_tail1 good_tail1 good_tail1 1 1 rfl rfl (by omega) (by omega) (by rw [tailP]; exact i64_tail2) (by rw [tailP]; exact good_tail2)
  rw [tailP, hw3] at hT
  rw [hw3] at hb3
  have HT := hide hT
  clear hT hblk hs3 hw3 w3 hp1 hp2 hp1' o1 o2 hb12 hb1 hb2
  go_wp2_with fail
  refine HT.out.mono ?_; rintro e w4 ⟨A, N, cap, rfl, hp4, hb4⟩
  have hb04 := hb3.trans (hb4.mono hb3.size)
  clear HT hb4 hb3
  have HP4 := hide hp4
  clear hp4
  go_wp2_with fail
  refine (grow_any ⟨#[49, 48, 49, 48, 49, 48, 48]⟩ 10 w4 (by omega)).mono ?_; rintro e w5 ⟨p5, rfl, hb5, _, hx⟩
  have HX := hide (hx tA growA)
  clear hx
  have hb05 := hb04.trans (hb5.mono hb04.size)
  rw [growA]
  go_wp2_with fail
  refine (grow_any ⟨#[49, 48, 48]⟩ 10 w5 (by omega)).mono ?_; rintro e w6 ⟨p6, rfl, hb6, _, hy⟩
  have HY := hide (hy tB growB)
  clear hy
  rw [growB]
  have hb06 := hb05.trans (hb6.mono hb05.size)
  have hb46 := hb5.trans (hb6.mono hb5.size)
  have HR := hide (returns_yes w6 N cap A [.tail 0 0, .tail 0 0] 2 p5 p6 tA tB ((HP4.out.below hb46).more hb46.size) i64_tail2 good_tail2 (HX.out.below hb6) (by decide) HY.out (by decide) (by omega) playA)
  clear HP4 HX HY hb46 hb5 hb6
  go_wp2_with fail
  refine HR.out.mono ?_; rintro e w7 ⟨rfl, hb7⟩
  go_wp2
  go_ret
  exact ⟨rfl, hb06.trans (hb7.mono hb06.size)⟩
end Go.Proofs.Ytgbieakahgkkpaa
