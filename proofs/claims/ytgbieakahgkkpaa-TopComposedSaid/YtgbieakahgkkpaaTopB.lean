import Derived.Test.YtgbieakahgkkpaaProg
import Derived.Test.YtgbieakahgkkpaaPMem
import Derived.WalkKit
import Derived.WalkSpells
import Derived.WalkLawsBesides
import Derived.Outline
import Derived.Deep.RegionHeld3
import Derived.Deep.DrawnRows
import Derived.KernelRfl
import Derived.BigQuiet
import Derived.Deep.QuietTactic
namespace Go.Proofs.Ytgbieakahgkkpaa
open Go.RowKit
set_option maxRecDepth 100000 in
/-- regs: one more than the greatest register. -/
theorem regs_any (w : World) (B n cap : Nat) (A : Option Addr) (p : List Ins) (h : PMem w B A n p) (hn : n ≤ 100000000) (hr : regsMax p ≤ 1000000000) :
    Calls Try.prog 39 #[.slice A n cap] w fun e w' => e = .returned (.int .i64 (regsMax p + 1)) ∧ ∃ k, w' = w.drewN k := by
  have h0 : ∀ k : Nat, 0 ≤ (p.take k).foldl regStep 0 := by
    intro k
    have : ∀ (l : List Ins) (m : Int), 0 ≤ m → 0 ≤ l.foldl regStep m := by
      intro l
      induction l with
      | nil => intro m hm; exact hm
      | cons x l ih => intro m hm; simp only [List.foldl_cons]; apply ih; unfold regStep; split <;> omega
    exact this _ 0 (Int.le_refl _)
  have H0 := hide h0
  clear h0
  go_enter Try.func39, Try.ntmps39
  go_wp2
  go_loopw [3, 4] (fun m i wr => ∃ k : Nat, k ≤ n ∧ i = .int .i64 k ∧ m = .int .i64 ((p.take k).foldl regStep 0) ∧ ∃ j, wr = w.drewN j) (fun _ i _ => n - (intOf i).toNat)
  case atStart => exact ⟨0, Nat.zero_le _, rfl, rfl, 0, rfl⟩
  case round =>
    obtain ⟨k, hk, rfl, rfl, j, rfl⟩ := hrel
    obtain ⟨M, hM⟩ : ∃ M, M = List.foldl regStep 0 (List.take k p) := ⟨_, rfl⟩
    rw [← hM]
    have HM := hide hM
    clear hM
    by_cases hlt : k < n
    · obtain ⟨b, off, x, rfl, hb, hx, c0, c1, c2, c3, c4⟩ := h.at_ k hlt
      have HX := hide hx
      have H := hide h
      clear c4 hx h
      have hstep : (p.take (k + 1)).foldl regStep 0 = regStep M x := by
        rw [List.take_add_one, HX.out, List.foldl_append, HM.out]; rfl
      have HS := hide hstep
      clear hstep
      obtain ⟨M1, hM1⟩ : ∃ M1, (if M < x.a then x.a else M) = M1 := ⟨_, rfl⟩
      by_cases hop : x.op = 5
      · have ho : (x.op != 5) = false := by simp [hop]
        have HO := hide hop
        have HM1 := hide hM1
        clear hop
        go_wp2
        go_roundw
        case rel =>
          refine ⟨k + 1, by omega, by go_num, ?_, j, rfl⟩
          rw [HS.out]
          have e : regStep M x = M1 := by
            have := HM1.out
            unfold regStep
            rw [if_pos HO.out, ← this]
            split <;> omega
          rw [e]
        case measure => simp [intOf]; omega
      · have ho : (x.op != 5) = true := by simp [hop]
        obtain ⟨M2, hM2⟩ : ∃ M2, (if M1 < x.b then x.b else M1) = M2 := ⟨_, rfl⟩
        obtain ⟨M3, hM3⟩ : ∃ M3, (if M2 < x.c then x.c else M2) = M3 := ⟨_, rfl⟩
        have HO := hide hop
        have HM1 := hide hM1
        have HM2 := hide hM2
        have HM3 := hide hM3
        clear hop
        go_wp2_with fail
        go_quiet (fail)
        go_wp2
        go_roundw
        case rel =>
          refine ⟨k + 1, by omega, by go_num, ?_, j + nq, rfl⟩
          rw [HS.out]
          have e : regStep M x = M3 := by
            have h1 := HM1.out
            have h2 := HM2.out
            have h3 := HM3.out
            unfold regStep
            rw [if_neg HO.out, ← h3, ← h2, ← h1]
            repeat' split
            all_goals omega
          rw [e]
        case measure => simp [intOf]; omega
    · have hkn : k = n := by omega
      have hM0 : M = regsMax p := by
        rw [HM.out, hkn, h.1, List.take_length]; rfl
      have b0 : 0 ≤ M := by rw [HM.out]; exact H0.out k
      have b1 : M ≤ 1000000000 := by rw [hM0]; exact hr
      have HM0 := hide hM0
      clear hM0 hkn hr
      go_wp2
      go_ret
      exact ⟨by rw [HM0.out]; rfl, j, rfl⟩

/-- register: whether a number is one. -/
theorem register_any (w : World) (n : Int) : Calls Try.prog 96 #[.int .i64 n] w fun e w' => e = .returned (.bool (decide (0 ≤ n) && decide (n < 32))) ∧ w = w' := by
  go_enter Try.func96, Try.ntmps96
  by_cases h : 0 ≤ n
  · go_wp2
    go_ret
    exact ⟨by simp [h], rfl⟩
  · go_wp2
    go_ret
    exact ⟨by simp; omega, rfl⟩
end Go.Proofs.Ytgbieakahgkkpaa
