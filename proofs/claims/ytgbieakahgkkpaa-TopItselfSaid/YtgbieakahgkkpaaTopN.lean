/- simulates, calm: what the universal program is asked. -/
import Derived.Test.YtgbieakahgkkpaaTopM
import Derived.Test.YtgbieakahgkkpaaTopH
import Derived.Test.YtgbieakahgkkpaaTopJ
import Derived.Test.YtgbieakahgkkpaaTopK
import Derived.Test.YtgbieakahgkkpaaUniE
import Derived.Test.YtgbieakahgkkpaaAsmH
import Derived.WalkKit
import Derived.WalkSpells
import Derived.WalkLawsBesides
import Derived.Outline
import Derived.KernelRfl
namespace Go.Proofs.Ytgbieakahgkkpaa
open Go.RowKit

def tC : T := .pair .nil tB
theorem growC : growSpec ⟨#[49, 48, 49, 48, 48]⟩ 10 = some tC := by decide +kernel
theorem uProg_regs : regsMax (encP uProg) + 1 = 15 := by decide +kernel
theorem uProg_code : (codeT uProg).size ≤ 100000 := by decide +kernel
theorem uProg_chars : charsOf uProg = 6 := by decide +kernel
theorem uProg_wf : WF uProg := by
  have : ∀ p ∈ uProg.zipIdx, (match p.1 with
    | .set a _ => decide (a < 32)
    | .move a b => decide (a < 32 ∧ b < 32)
    | .cons a b c => decide (a < 32 ∧ b < 32 ∧ c < 32)
    | .head a b => decide (a < 32 ∧ b < 32)
    | .tail a b => decide (a < 32 ∧ b < 32)
    | .jump a d => decide (a < 32 ∧ -(p.2 : Int) ≤ d ∧ d ≤ (129 : Int) - p.2)) = true := by decide +kernel
  intro i x hx
  have hm : (x, i) ∈ uProg.zipIdx := List.mem_zipIdx_iff_getElem?.2 hx
  have := this _ hm
  rw [uProg_len]
  cases x <;> simpa [wfI] using this
theorem uProg_good : goodP (encP uProg) 4000 2000000 := goodP_iff.2 ⟨_, rfl, uProg_wf, by rw [uProg_len]; omega, by rw [uProg_chars]; omega⟩
theorem uProg_i64 : ∀ x ∈ encP uProg, x.I64 := goodP_i64 uProg_good (by omega) (by omega)
theorem sim_tail : ∃ m, m ≤ 10000 ∧ play uProg 10000 0 (first (.pair (codeT [.tail 0 0]) tC)) = .ended tB m := by
  obtain ⟨m, h1, h2⟩ := univ_small (q := [.tail 0 0]) (x := tC) (f := 1) (k := 1) (F := 10000) (y := tB) (fun i x h => by
    match i, h with
    | 0, h => simp at h; subst h; simp [wfI]) (by simp) (by decide +kernel) (by decide) (fun i hi t ht => by
    match i, hi with
    | 0, _ => simp only [steps, Option.some.injEq] at ht; subst ht; decide +kernel
    | 1, _ =>
      have e : steps [.tail 0 0] 1 (first tC) = some ⟨1, upd (first tC).r 0 tB⟩ := rfl
      rw [e] at ht; cases ht; decide +kernel)
  exact ⟨m, by simp at h1; omega, h2⟩

/-- calm: whether the registers stay small. -/
theorem calm_any (w : World) (n cap : Nat) (A : Option Addr) (q : List I) (fuel : Nat) (p : Option Addr) (x : T) (h : PMem w w.heap.size A n (encP q)) (hw : WF q) (hq : charsOf q ≤ 2000000) (hn : n ≤ 4000)
    (hx : Rep 102 w p x) (hxs : x.size ≤ 100000000) (hf : fuel ≤ 1000000000) :
    Calls Try.prog 28 #[.slice A n cap, .pointer p, .int .i64 fuel] w fun e w' => e = .returned (.bool (decide ((follow q fuel 0 (sumR (first x).r) (first x)).2 ≤ 200000))) ∧ Below w.heap.size w w' := by
  have HF := hide (follow_any w n cap A q fuel p x h hw hq hn hx hxs hf)
  clear h hx
  obtain ⟨R, hR⟩ : ∃ R, R = follow q fuel 0 (sumR (first x).r) (first x) := ⟨_, rfl⟩
  rw [← hR] at HF ⊢
  clear hR
  go_enter Try.func28, Try.ntmps28
  go_wp2_with fail
  refine HF.out.mono ?_; rintro e w1 ⟨p1, k1, how1, rfl, hb1, hpost⟩
  have HPO := hide hpost
  clear hpost
  go_wp2
  go_ret
  exact ⟨by congr 2; simp; omega, hb1⟩

set_option maxHeartbeats 2000000 in
set_option maxRecDepth 100000 in
theorem simulates_yes (w : World) (cap : Nat) (A : Option Addr) (h : PMem w w.heap.size A 129 (encP uProg)) :
    Calls Try.prog 23 #[.slice A 129 cap] w fun e w' => e = .returned (.bool true) ∧ Below w.heap.size w w' := by
  have HP := hide h
  clear h
  go_enter Try.func23, Try.ntmps23
  go_wp2_with fail
  refine (grow_any ⟨#[49, 48, 49, 48, 48]⟩ 10 w (by omega)).mono ?_; rintro e w1 ⟨p1, rfl, b1, _, r1⟩
  have R1 := hide (r1 _ growC)
  rw [growC]
  clear r1
  go_wp2_with fail
  refine (grow_any ⟨#[49, 48, 48]⟩ 10 w1 (by omega)).mono ?_; rintro e w2 ⟨p2, rfl, b2, _, r2⟩
  have R2 := hide (r2 _ growB)
  rw [growB]
  clear r2
  have F2 := b1.trans (b2.mono b1.size)
  have s2 := F2.size
  go_wp2_with fail
  refine (whole_yes w2 129 cap A (encP uProg) ((HP.out.below F2).more s2) uProg_i64 uProg_good).mono ?_; rintro e w3 ⟨rfl, b3⟩
  have F3 := F2.trans (b3.mono s2)
  have s3 := F3.size
  go_wp2_with fail
  refine (regs_any w3 w3.heap.size 129 cap A (encP uProg) ((HP.out.below F3).more s3) (by omega) (by have := uProg_regs; omega)).mono ?_; rintro e w4 ⟨rfl, k, rfl⟩
  have F4 := below_drewN F3 k
  have s4 : w.heap.size ≤ (w3.drewN k).heap.size := F4.size
  rw [uProg_regs]
  go_wp2_with fail
  refine (code_any _ 129 cap A uProg ((HP.out.below F4).more s4) uProg_wf (by rw [uProg_chars]; omega) (by omega)).mono ?_; rintro e w5 ⟨p5, rfl, b5, r5⟩
  have F5 := F4.trans (b5.mono s4)
  have s5 := F5.size
  go_wp2_with fail
  have hcs := uProg_code
  obtain ⟨C, hC⟩ : ∃ C, C = (codeT uProg).size := ⟨_, rfl⟩
  have K5 := size_any w5 p5 _ r5
  rw [← hC] at K5 hcs
  clear hC
  refine K5.mono ?_; rintro e w' ⟨rfl, rfl⟩
  have R25 := hide ((((R2.out.below b3).drewN k).below b5))
  have R15 := hide ((((R1.out.below b2).below b3).drewN k).below b5)
  clear b1 b2 b3 b5 K5 r5 R1 R2 F2 F3 F4 s2 s3 s4
  go_wp2_with fail
  refine (ttail_any w5).mono ?_; rintro e w6 ⟨A6, c6, rfl, o6, b6⟩
  have F6 := F5.trans (b6.mono s5)
  have s6 := F6.size
  go_wp2_with fail
  refine (code_any w6 1 c6 A6 [.tail 0 0] (PMem.of_own (p := encP [.tail 0 0]) rfl o6) (fun i x h => by
    match i, h with
    | 0, h => simp at h; subst h; simp [wfI]) (by simp [charsOf, I.chars]) (by omega)).mono ?_; rintro e w7 ⟨p7, rfl, b7, r7⟩
  have F7 := F6.trans (b7.mono s6)
  have s7 := F7.size
  have R17 := hide ((R15.out.below b6).below b7)
  have R27 := hide ((R25.out.below b6).below b7)
  clear R15 R25 b6 b7 o6 F5 F6 s5 s6
  go_wp2_with fail
  refine (pair_any w7 p7 p1 _ tC r7 R17.out (by decide)).mono ?_; rintro e w8 ⟨rfl, rfl⟩
  have r8 := Rep.pair_new r7 R17.out
  have F8 := F7.alloc s7 (.cells #[.pointer p7, .pointer p1, .int .i64 (T.pair (codeT [.tail 0 0]) tC).size] 102)
  have R28 := hide (R27.out.alloc (.cells #[.pointer p7, .pointer p1, .int .i64 (T.pair (codeT [.tail 0 0]) tC).size] 102))
  obtain ⟨w8, hw8⟩ : ∃ z, z = w7.alloc (.cells #[.pointer p7, .pointer p1, .int .i64 (T.pair (codeT [.tail 0 0]) tC).size] 102) := ⟨_, rfl⟩
  rw [← hw8] at r8 F8 R28 ⊢
  clear hw8
  have s8 := F8.size
  obtain ⟨m, hm, hpl⟩ := sim_tail
  have KP := play_any w8 129 cap A uProg 10000 _ _ ((HP.out.below F8).more s8) uProg_wf (by rw [uProg_chars]; omega) (by omega) r8 (by decide) (by omega)
  rw [hpl] at KP
  have HKP := hide KP
  clear KP
  go_wp2_with fail
  refine HKP.out.mono ?_; rintro e w9 ⟨p9, k9, how9, rfl, b9, rfl, rfl, r9⟩
  have F9 := F8.trans (b9.mono s8)
  have R29 := R28.out.below b9
  clear hpl HKP
  go_wp2_with fail
  refine (equal_any w9 p9 p2 tB tB r9 R29 (by decide) (by decide)).mono ?_; rintro e w10 ⟨rfl, b10⟩
  go_wp2
  go_ret
  exact ⟨by simp, F9.trans (b10.mono F9.size)⟩
end Go.Proofs.Ytgbieakahgkkpaa
