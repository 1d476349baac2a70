import Derived.Test.YtgbieakahgkkpaaProg
import Derived.Test.YtgbieakahgkkpaaPMem
import Derived.Test.YtgbieakahgkkpaaCodeC
import Derived.WalkKit
import Derived.WalkSpells
import Derived.WalkLawsBesides
import Derived.Outline
import Derived.KernelRfl
namespace Go.Proofs.Ytgbieakahgkkpaa
open Go.RowKit

theorem cvalid_yes (w : World) (n cap : Nat) (A : Option Addr) (p : List Ins) (h : PMem w w.heap.size A n p) (hi : ∀ x ∈ p, x.I64) (hg : goodP p 4000 2000000) :
    Calls Try.prog 121 #[.slice A n cap] w fun e w' => e = .returned (.bool true) ∧ Below w.heap.size w w' :=
  (cvalid_any w n cap A p h hi).mono fun e w' ⟨b, he, hb, hw⟩ => ⟨by rw [he, hb.2 hg], hw⟩
theorem cvalid_no (w : World) (n cap : Nat) (A : Option Addr) (p : List Ins) (h : PMem w w.heap.size A n p) (hi : ∀ x ∈ p, x.I64) (hg : ¬ goodP p 4000 2000000) :
    Calls Try.prog 121 #[.slice A n cap] w fun e w' => e = .returned (.bool false) ∧ Below w.heap.size w w' :=
  (cvalid_any w n cap A p h hi).mono fun e w' ⟨b, he, hb, hw⟩ => ⟨by rw [he]; cases b with | false => rfl | true => exact absurd (hb.1 rfl) hg, hw⟩

theorem regsMax_nonneg (p : List Ins) (k : Nat) : 0 ≤ (p.take k).foldl regStep 0 := by
  have : ∀ (l : List Ins) (m : Int), 0 ≤ m → 0 ≤ l.foldl regStep m := by
    intro l
    induction l with
    | nil => intro m hm; exact hm
    | cons x l ih => intro m hm; simp only [List.foldl_cons]; apply ih; unfold regStep; split <;> omega
  exact this _ 0 (Int.le_refl _)

set_option maxRecDepth 100000 in
/-- code.Regs of a program that is not valid. -/
theorem cregs_no (w : World) (n cap : Nat) (A : Option Addr) (p : List Ins) (h : PMem w w.heap.size A n p) (hi : ∀ x ∈ p, x.I64) (hg : ¬ goodP p 4000 2000000) :
    Calls Try.prog 133 #[.slice A n cap] w fun e w' => e = .returned (.tuple #[.int .i64 0, .int .i64 1]) ∧ Below w.heap.size w w' := by
  go_enter Try.func133, Try.ntmps133
  go_wp2_with fail
  refine (cvalid_no w n cap A p h hi hg).mono ?_; rintro e w' ⟨rfl, hb⟩
  go_wp2
  go_ret2
  exact ⟨rfl, hb⟩

set_option maxHeartbeats 1000000 in
set_option maxRecDepth 100000 in
/-- code.Regs of a valid program. -/
theorem cregs_yes (w : World) (n cap : Nat) (A : Option Addr) (p : List Ins) (h : PMem w w.heap.size A n p) (hi : ∀ x ∈ p, x.I64) (hg : goodP p 4000 2000000) (hr : regsMax p ≤ 1000) :
    Calls Try.prog 133 #[.slice A n cap] w fun e w' => e = .returned (.tuple #[.int .i64 (regsMax p + 1), .int .i64 0]) ∧ Below w.heap.size w w' := by
  have hn : (n : Int) ≤ 4000 := by have := hg.1; have := h.1; omega
  go_enter Try.func133, Try.ntmps133
  go_wp2_with fail
  refine (cvalid_yes w n cap A p h hi hg).mono ?_; rintro e w0 ⟨rfl, hb0⟩
  have h := h.below hb0
  go_wp2
  go_loopw [4, 12] (fun m i wr => ∃ k : Nat, k ≤ n ∧ i = .int .i64 k ∧ m = .int .i64 ((p.take k).foldl regStep 0) ∧ Below w.heap.size w wr ∧ PMem wr w.heap.size A n p) (fun _ i _ => n - (intOf i).toNat)
  case atStart => exact ⟨0, Nat.zero_le _, rfl, rfl, hb0, h⟩
  case round =>
    clear h
    obtain ⟨k, hk, rfl, rfl, hbel, h⟩ := hrel
    obtain ⟨M, hM⟩ : ∃ M, M = List.foldl regStep 0 (List.take k p) := ⟨_, rfl⟩
    rw [← hM]
    have HM := hide hM
    clear hM
    have hsz := hbel.size
    by_cases hlt : k < n
    · obtain ⟨b, off, ⟨op, xa, xb, xc, tr⟩, rfl, hb, hx, c0, c1, c2, c3, c4⟩ := h.at_ k hlt
      have HX := hide hx
      have H := hide h
      clear hx h hi hg hr
      simp only at c0 c1 c2 c3 c4
      have hstep : (p.take (k + 1)).foldl regStep 0 = regStep M ⟨op, xa, xb, xc, tr⟩ := by
        rw [List.take_add_one, HX.out, List.foldl_append, HM.out]; rfl
      have HS := hide hstep
      clear hstep
      obtain ⟨M1, hM1⟩ : ∃ M1, (if M < xa then xa else M) = M1 := ⟨_, rfl⟩
      by_cases hop : op = 5
      · subst hop
        go_wp2
        go_roundw
        case rel =>
          refine ⟨k + 1, by omega, by go_num, ?_, hbel.alloc hsz _, H.out.alloc hsz _⟩
          rw [HS.out]
          have e : regStep M ⟨5, xa, xb, xc, tr⟩ = M1 := by
            unfold regStep
            rw [if_pos rfl, ← hM1]
            simp only
            split <;> omega
          rw [e]
        case measure => simp [intOf]; omega
      · have ho : (op != 5) = true := by simp [hop]
        obtain ⟨M2, hM2⟩ : ∃ M2, (if M1 < xb then xb else M1) = M2 := ⟨_, rfl⟩
        obtain ⟨M3, hM3⟩ : ∃ M3, (if M2 < xc then xc else M2) = M3 := ⟨_, rfl⟩
        have HO := hide hop
        have HM1 := hide hM1
        have HM2 := hide hM2
        have HM3 := hide hM3
        clear hop
        go_wp2
        go_roundw
        case rel =>
          refine ⟨k + 1, by omega, by go_num, ?_, hbel.alloc hsz _, H.out.alloc hsz _⟩
          rw [HS.out]
          have e : regStep M ⟨op, xa, xb, xc, tr⟩ = M3 := by
            have h1 := HM1.out
            have h2 := HM2.out
            have h3 := HM3.out
            unfold regStep
            rw [if_neg HO.out, ← h3, ← h2, ← h1]
            simp only
            repeat' split
            all_goals omega
          rw [e]
        case measure => simp [intOf]; omega
    · have hkn : k = n := by omega
      have hM0 : M = regsMax p := by
        rw [HM.out, hkn, h.1, List.take_length]; rfl
      have b0 : 0 ≤ M := by rw [HM.out]; exact regsMax_nonneg p k
      have b1 : M ≤ 1000 := by rw [hM0]; exact hr
      have HM0 := hide hM0
      clear hM0 hkn hr h hi hg
      go_wp2
      go_ret2
      exact ⟨by rw [← HM0.out]; rfl, hbel⟩
end Go.Proofs.Ytgbieakahgkkpaa
