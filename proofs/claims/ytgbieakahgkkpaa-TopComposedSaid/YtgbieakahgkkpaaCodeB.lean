import Derived.Test.YtgbieakahgkkpaaProg
import Derived.Test.YtgbieakahgkkpaaPMem
import Derived.Test.YtgbieakahgkkpaaCodeA
import Derived.Test.YtgbieakahgkkpaaOk
import Derived.WalkKit
import Derived.WalkSpells
import Derived.WalkLawsBesides
import Derived.Outline
import Derived.KernelRfl
namespace Go.Proofs.Ytgbieakahgkkpaa
open Go.RowKit

theorem Ints.new1 (W : World) (a : Int) : Ints (W.alloc (.cells #[.int .i64 a] 3)) W.heap.size 0 1 [a] := ⟨rfl, fun i v h => by
  have hb := Blk.new W 3 #[.int .i64 a]
  rw [hb.cell]
  match i, h with
  | 0, h => simp at h; subst h; rfl⟩
theorem Ints.new2 (W : World) (a b : Int) : Ints (W.alloc (.cells #[.int .i64 a, .int .i64 b] 3)) W.heap.size 0 2 [a, b] := ⟨rfl, fun i v h => by
  have hb := Blk.new W 3 #[.int .i64 a, .int .i64 b]
  rw [hb.cell]
  match i, h with
  | 0, h => simp at h; subst h; rfl
  | 1, h => simp at h; subst h; rfl⟩
theorem Ints.new3 (W : World) (a b c : Int) : Ints (W.alloc (.cells #[.int .i64 a, .int .i64 b, .int .i64 c] 3)) W.heap.size 0 3 [a, b, c] := ⟨rfl, fun i v h => by
  have hb := Blk.new W 3 #[.int .i64 a, .int .i64 b, .int .i64 c]
  rw [hb.cell]
  match i, h with
  | 0, h => simp at h; subst h; rfl
  | 1, h => simp at h; subst h; rfl
  | 2, h => simp at h; subst h; rfl⟩
theorem reg1 (W : World) (a : Int) (v : Bool) (H : Nat) (hH : W.heap.size = H) (hv : allReg [a] = v) : Calls Try.prog 170 #[.slice (some ⟨H, 0, none⟩) 1 1] (W.alloc (.cells #[.int .i64 a] 3)) fun e w' => e = .returned (.bool v) ∧ W.alloc (.cells #[.int .i64 a] 3) = w' := by
  have h := reg_any _ _ 0 1 1 [a] (Ints.new1 W a) (by omega)
  rwa [hv, hH] at h
theorem reg2 (W : World) (a b : Int) (v : Bool) (H : Nat) (hH : W.heap.size = H) (hv : allReg [a, b] = v) : Calls Try.prog 170 #[.slice (some ⟨H, 0, none⟩) 2 2] (W.alloc (.cells #[.int .i64 a, .int .i64 b] 3)) fun e w' => e = .returned (.bool v) ∧ W.alloc (.cells #[.int .i64 a, .int .i64 b] 3) = w' := by
  have h := reg_any _ _ 0 2 2 [a, b] (Ints.new2 W a b) (by omega)
  rwa [hv, hH] at h
theorem reg3 (W : World) (a b c : Int) (v : Bool) (H : Nat) (hH : W.heap.size = H) (hv : allReg [a, b, c] = v) : Calls Try.prog 170 #[.slice (some ⟨H, 0, none⟩) 3 3] (W.alloc (.cells #[.int .i64 a, .int .i64 b, .int .i64 c] 3)) fun e w' => e = .returned (.bool v) ∧ W.alloc (.cells #[.int .i64 a, .int .i64 b, .int .i64 c] 3) = w' := by
  have h := reg_any _ _ 0 3 3 [a, b, c] (Ints.new3 W a b c) (by omega)
  rwa [hv, hH] at h

def RightPost (x : Ins) (i n : Int) (w : World) (e : Ending) (w' : World) : Prop := ∃ b, e = .returned (.bool b) ∧ (b = true ↔ okIns x i n) ∧ Below w.heap.size w w'

set_option maxHeartbeats 4000000 in
set_option maxRecDepth 100000 in
/-- right: whether an instruction is valid at a place of a program of some length. -/
theorem right_any (w : World) (op xa xb xc : Int) (tr : ByteArray) (i n : Nat) (ht : (tr.size : Int) ≤ 2000000) (hi : i ≤ 100000) (hn : n ≤ 100000) :
    Calls Try.prog 153 #[.agg #[.int .i64 op, .int .i64 xa, .int .i64 xb, .int .i64 xc, .string tr], .int .i64 i, .int .i64 n] w (RightPost ⟨op, xa, xb, xc, tr⟩ i n w) := by
  have hts : tr.size ≤ 140737488351232 := by omega
  have hvalid := fun W => tvalid_any tr W hts
  by_cases h0 : op = 0
  · subst h0
    by_cases hc0 : xc = 0
    · subst hc0
      by_cases ha : 0 ≤ xa ∧ xa < 32
      · skip
        have hr : allReg [xa] = true := by simp [allReg]; omega
        have HR := hide hr
        clear hr
        by_cases hbz : xb = 0
        · subst hbz
          have HV := hide hvalid
          clear hvalid
          go_enter Try.func153, Try.ntmps153
          go_wp2_with fail
          refine (reg1 _ xa true (w.heap.size + 1) (by simp) HR.out).mono ?_; rintro e w' ⟨rfl, rfl⟩
          go_wp2_with fail
          refine (HV.out _).mono ?_; rintro e w' ⟨rfl, hb⟩
          go_wp2
          go_ret
          refine ⟨_, rfl, ?_, ((((Below.refl _ _).alloc (Nat.le_refl _) _).alloc (by simp) _)).trans (hb.mono (by simp; omega))⟩
          exact ⟨fun hp => ok_mk0 ha (by simpa using hp), fun hok => by obtain ⟨_, _, _, hd⟩ := hok; simp only at hd; rcases hd with ⟨_, hp, _⟩ | ⟨h', _⟩ | ⟨h', _⟩ | ⟨h', _⟩ <;> first | (rw [hp]; rfl) | omega⟩
        · have hbz1 : (xb == 0) = false := by simp [hbz]
          clear hvalid
          go_enter Try.func153, Try.ntmps153
          go_wp2_with fail
          refine (reg1 _ xa true (w.heap.size + 1) (by simp) HR.out).mono ?_; rintro e w' ⟨rfl, rfl⟩
          go_wp2
          go_ret
          exact ⟨false, rfl, ⟨fun h0 => by simp at h0, fun hok => by exfalso; obtain ⟨ha', ht', hc', hd'⟩ := hok; simp only [reg] at ha' ht' hc' hd'; omega⟩, (((Below.refl _ _).alloc (Nat.le_refl _) _).alloc (by simp) _)⟩
      · skip
        have hr : allReg [xa] = false := by rw [← Bool.not_eq_true]; intro h'; simp [allReg] at h'; omega
        have HR := hide hr
        clear hr
        clear hvalid
        go_enter Try.func153, Try.ntmps153
        go_wp2_with fail
        refine (reg1 _ xa false (w.heap.size + 1) (by simp) HR.out).mono ?_; rintro e w' ⟨rfl, rfl⟩
        go_wp2
        go_ret
        exact ⟨false, rfl, ⟨fun h0 => by simp at h0, fun hok => by exfalso; obtain ⟨ha', ht', hc', hd'⟩ := hok; simp only [reg] at ha' ht' hc' hd'; omega⟩, (((Below.refl _ _).alloc (Nat.le_refl _) _).alloc (by simp) _)⟩
    · have hc1 : (xc != 0) = true := by simp [hc0]
      clear hvalid
      go_enter Try.func153, Try.ntmps153
      go_wp2
      go_ret
      exact ⟨false, rfl, ⟨fun h0 => by simp at h0, fun hok => by exfalso; obtain ⟨ha', ht', hc', hd'⟩ := hok; simp only [reg] at ha' ht' hc' hd'; omega⟩, ((Below.refl _ _).alloc (Nat.le_refl _) _)⟩
  · have h0a : (op != 0) = true := by simp [h0]
    have h0b : (op == 0) = false := by simp [h0]
    by_cases hte : tr.toList = []
    · have hte1 : tr.toList.isEmpty = true := by rw [hte]; rfl
      have htz := empty_of_list hte
      have HTZ := hide htz
      clear htz
      by_cases h2 : op = 2
      · subst h2
        by_cases hr3 : (0 ≤ xa ∧ xa < 32) ∧ (0 ≤ xb ∧ xb < 32) ∧ (0 ≤ xc ∧ xc < 32)
        · skip
          have hr : allReg [xa, xb, xc] = true := by simp [allReg]; omega
          have HR := hide hr
          clear hr
          clear hvalid
          go_enter Try.func153, Try.ntmps153
          go_wp2_with fail
          refine (reg3 _ xa xb xc true (w.heap.size + 1) (by simp) HR.out).mono ?_; rintro e w' ⟨rfl, rfl⟩
          go_wp2
          go_ret
          exact ⟨true, rfl, ⟨fun _ => ok_mk2 hr3.1 hr3.2.1 hr3.2.2 HTZ.out, fun _ => rfl⟩, (((Below.refl _ _).alloc (Nat.le_refl _) _).alloc (by simp) _)⟩
        · skip
          have hr : allReg [xa, xb, xc] = false := by rw [← Bool.not_eq_true]; intro h'; simp [allReg] at h'; omega
          have HR := hide hr
          clear hr
          clear hvalid
          go_enter Try.func153, Try.ntmps153
          go_wp2_with fail
          refine (reg3 _ xa xb xc false (w.heap.size + 1) (by simp) HR.out).mono ?_; rintro e w' ⟨rfl, rfl⟩
          go_wp2
          go_ret
          exact ⟨false, rfl, ⟨fun h0 => by simp at h0, fun hok => by exfalso; obtain ⟨ha', ht', hc', hd'⟩ := hok; simp only [reg] at ha' ht' hc' hd'; omega⟩, (((Below.refl _ _).alloc (Nat.le_refl _) _).alloc (by simp) _)⟩
      · have h2a : (op != 2) = true := by simp [h2]
        have h2b : (op == 2) = false := by simp [h2]
        by_cases hc0 : xc = 0
        · subst hc0
          by_cases h134 : op = 1 ∨ op = 3 ∨ op = 4
          · by_cases hr2 : (0 ≤ xa ∧ xa < 32) ∧ (0 ≤ xb ∧ xb < 32)
            · skip
              have hr : allReg [xa, xb] = true := by simp [allReg]; omega
              have HR := hide hr
              clear hr
              rcases h134 with rfl | rfl | rfl
              · skip
                clear hvalid
                go_enter Try.func153, Try.ntmps153
                go_wp2_with fail
                refine (reg2 _ xa xb true (w.heap.size + 1) (by simp) HR.out).mono ?_; rintro e w' ⟨rfl, rfl⟩
                go_wp2
                go_ret
                exact ⟨true, rfl, ⟨fun _ => ok_mk134 hr2.1 hr2.2 (.inl rfl) HTZ.out, fun _ => rfl⟩, (((Below.refl _ _).alloc (Nat.le_refl _) _).alloc (by simp) _)⟩
              · skip
                clear hvalid
                go_enter Try.func153, Try.ntmps153
                go_wp2_with fail
                refine (reg2 _ xa xb true (w.heap.size + 1) (by simp) HR.out).mono ?_; rintro e w' ⟨rfl, rfl⟩
                go_wp2
                go_ret
                exact ⟨true, rfl, ⟨fun _ => ok_mk134 hr2.1 hr2.2 (.inr (.inl rfl)) HTZ.out, fun _ => rfl⟩, (((Below.refl _ _).alloc (Nat.le_refl _) _).alloc (by simp) _)⟩
              · skip
                clear hvalid
                go_enter Try.func153, Try.ntmps153
                go_wp2_with fail
                refine (reg2 _ xa xb true (w.heap.size + 1) (by simp) HR.out).mono ?_; rintro e w' ⟨rfl, rfl⟩
                go_wp2
                go_ret
                exact ⟨true, rfl, ⟨fun _ => ok_mk134 hr2.1 hr2.2 (.inr (.inr rfl)) HTZ.out, fun _ => rfl⟩, (((Below.refl _ _).alloc (Nat.le_refl _) _).alloc (by simp) _)⟩
            · skip
              have hr : allReg [xa, xb] = false := by rw [← Bool.not_eq_true]; intro h'; simp [allReg] at h'; omega
              have HR := hide hr
              clear hr
              rcases h134 with rfl | rfl | rfl
              · skip
                clear hvalid
                go_enter Try.func153, Try.ntmps153
                go_wp2_with fail
                refine (reg2 _ xa xb false (w.heap.size + 1) (by simp) HR.out).mono ?_; rintro e w' ⟨rfl, rfl⟩
                go_wp2
                go_ret
                exact ⟨false, rfl, ⟨fun h0 => by simp at h0, fun hok => by exfalso; obtain ⟨ha', ht', hc', hd'⟩ := hok; simp only [reg] at ha' ht' hc' hd'; omega⟩, (((Below.refl _ _).alloc (Nat.le_refl _) _).alloc (by simp) _)⟩
              · skip
                clear hvalid
                go_enter Try.func153, Try.ntmps153
                go_wp2_with fail
                refine (reg2 _ xa xb false (w.heap.size + 1) (by simp) HR.out).mono ?_; rintro e w' ⟨rfl, rfl⟩
                go_wp2
                go_ret
                exact ⟨false, rfl, ⟨fun h0 => by simp at h0, fun hok => by exfalso; obtain ⟨ha', ht', hc', hd'⟩ := hok; simp only [reg] at ha' ht' hc' hd'; omega⟩, (((Below.refl _ _).alloc (Nat.le_refl _) _).alloc (by simp) _)⟩
              · skip
                clear hvalid
                go_enter Try.func153, Try.ntmps153
                go_wp2_with fail
                refine (reg2 _ xa xb false (w.heap.size + 1) (by simp) HR.out).mono ?_; rintro e w' ⟨rfl, rfl⟩
                go_wp2
                go_ret
                exact ⟨false, rfl, ⟨fun h0 => by simp at h0, fun hok => by exfalso; obtain ⟨ha', ht', hc', hd'⟩ := hok; simp only [reg] at ha' ht' hc' hd'; omega⟩, (((Below.refl _ _).alloc (Nat.le_refl _) _).alloc (by simp) _)⟩
          · have h1b : (op == 1) = false := by rw [beq_eq_false_iff_ne]; omega
            have h3b : (op == 3) = false := by rw [beq_eq_false_iff_ne]; omega
            have h4b : (op == 4) = false := by rw [beq_eq_false_iff_ne]; omega
            by_cases h5 : op = 5
            · subst h5
              clear h134
              by_cases ha : 0 ≤ xa ∧ xa < 32
              · skip
                have hr : allReg [xa] = true := by simp [allReg]; omega
                have HR := hide hr
                clear hr
                by_cases hj1 : xb < -(i : Int)
                · have hq1 : decide (-(i : Int) ≤ xb) = false := decide_eq_false (by omega)
                  clear hvalid
                  go_enter Try.func153, Try.ntmps153
                  go_wp2_with fail
                  refine (reg1 _ xa true (w.heap.size + 1) (by simp) HR.out).mono ?_; rintro e w' ⟨rfl, rfl⟩
                  go_wp2
                  go_ret
                  exact ⟨false, rfl, ⟨fun h0 => by simp at h0, fun hok => by exfalso; obtain ⟨ha', ht', hc', hd'⟩ := hok; simp only [reg] at ha' ht' hc' hd'; omega⟩, (((Below.refl _ _).alloc (Nat.le_refl _) _).alloc (by simp) _)⟩
                · have hq1 : decide (-(i : Int) ≤ xb) = true := decide_eq_true (by omega)
                  by_cases hj2 : (n : Int) - i < xb
                  · have hq2 : decide (xb ≤ (n : Int) - i) = false := decide_eq_false (by omega)
                    clear hvalid
                    go_enter Try.func153, Try.ntmps153
                    go_wp2_with fail
                    refine (reg1 _ xa true (w.heap.size + 1) (by simp) HR.out).mono ?_; rintro e w' ⟨rfl, rfl⟩
                    go_wp2
                    go_ret
                    exact ⟨false, rfl, ⟨fun h0 => by simp at h0, fun hok => by exfalso; obtain ⟨ha', ht', hc', hd'⟩ := hok; simp only [reg] at ha' ht' hc' hd'; omega⟩, (((Below.refl _ _).alloc (Nat.le_refl _) _).alloc (by simp) _)⟩
                  · have hq2 : decide (xb ≤ (n : Int) - i) = true := decide_eq_true (by omega)
                    clear hvalid
                    go_enter Try.func153, Try.ntmps153
                    go_wp2_with fail
                    refine (reg1 _ xa true (w.heap.size + 1) (by simp) HR.out).mono ?_; rintro e w' ⟨rfl, rfl⟩
                    go_wp2
                    go_ret
                    exact ⟨true, rfl, ⟨fun _ => ok_mk5 ha (by omega) (by omega) HTZ.out, fun _ => rfl⟩, (((Below.refl _ _).alloc (Nat.le_refl _) _).alloc (by simp) _)⟩
              · skip
                have hr : allReg [xa] = false := by rw [← Bool.not_eq_true]; intro h'; simp [allReg] at h'; omega
                have HR := hide hr
                clear hr
                clear hvalid
                go_enter Try.func153, Try.ntmps153
                go_wp2_with fail
                refine (reg1 _ xa false (w.heap.size + 1) (by simp) HR.out).mono ?_; rintro e w' ⟨rfl, rfl⟩
                go_wp2
                go_ret
                exact ⟨false, rfl, ⟨fun h0 => by simp at h0, fun hok => by exfalso; obtain ⟨ha', ht', hc', hd'⟩ := hok; simp only [reg] at ha' ht' hc' hd'; omega⟩, (((Below.refl _ _).alloc (Nat.le_refl _) _).alloc (by simp) _)⟩
            · have h5b : (op == 5) = false := by simp [h5]
              have HO := hide h134
              clear h134
              clear hvalid
              go_enter Try.func153, Try.ntmps153
              go_wp2
              go_ret
              exact ⟨false, rfl, ⟨fun h0 => by simp at h0, fun hok => by exfalso; obtain ⟨ha', ht', hc', hd'⟩ := hok; simp only [reg] at ha' ht' hc' hd'; have := HO.out; omega⟩, ((Below.refl _ _).alloc (Nat.le_refl _) _)⟩
        · have hc1 : (xc != 0) = true := by simp [hc0]
          clear hvalid
          go_enter Try.func153, Try.ntmps153
          go_wp2
          go_ret
          exact ⟨false, rfl, ⟨fun h0 => by simp at h0, fun hok => by exfalso; obtain ⟨ha', ht', hc', hd'⟩ := hok; simp only [reg] at ha' ht' hc' hd'; omega⟩, ((Below.refl _ _).alloc (Nat.le_refl _) _)⟩
    · have hte1 : tr.toList.isEmpty = false := by simp [hte]
      have htz : tr.size ≠ 0 := fun hz => hte (by rw [empty_of_size hz, ByteArray.toList_eq]; rfl)
      have HTZ := hide htz
      clear htz
      clear hvalid
      go_enter Try.func153, Try.ntmps153
      go_wp2
      go_ret
      exact ⟨false, rfl, ⟨fun h0 => by simp at h0, fun hok => by exfalso; obtain ⟨ha', ht', hc', hd'⟩ := hok; simp only [reg] at ha' ht' hc' hd'; have := HTZ.out; omega⟩, ((Below.refl _ _).alloc (Nat.le_refl _) _)⟩
end Go.Proofs.Ytgbieakahgkkpaa
