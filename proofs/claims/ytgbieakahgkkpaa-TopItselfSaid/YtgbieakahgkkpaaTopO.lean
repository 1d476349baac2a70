/- TopItself walked. -/
import Derived.Test.YtgbieakahgkkpaaTopN
namespace Go.Proofs.Ytgbieakahgkkpaa
open Go.RowKit

/-! ### Plain -/
theorem follow_small {q : List I} {B : Nat} (hB : B < MaxT) : ∀ (f k m : Nat) (s : St), sumR s.r ≤ m → (follow q f k m s).2 ≤ B → m ≤ B ∧ ∀ i ≤ f, ∀ t, steps q i s = some t → sumR t.r ≤ B := by
  intro f
  induction f with
  | zero =>
    intro k m s hs h
    have e : (follow q 0 k m s).2 = m := by unfold follow; split <;> rfl
    rw [e] at h
    refine ⟨h, fun i hi t ht => ?_⟩
    obtain rfl : i = 0 := by omega
    simp only [steps, Option.some.injEq] at ht; subst ht; omega
  | succ f ih =>
    intro k m s hs h
    unfold follow at h
    split at h
    · rename_i hp
      refine ⟨h, fun i hi t ht => ?_⟩
      cases i with
      | zero => simp only [steps, Option.some.injEq] at ht; subst ht; exact Nat.le_trans hs h
      | succ i => simp only [steps, step_end hp] at ht; cases ht
    · cases hst : step q s with
      | none => rw [hst] at h; simp only at h; omega
      | some u =>
        rw [hst] at h
        simp only at h
        obtain ⟨h1, h2⟩ := ih (k + 1) _ u (Nat.le_max_right _ _) h
        refine ⟨by omega, fun i hi t ht => ?_⟩
        cases i with
        | zero => simp only [steps, Option.some.injEq] at ht; subst ht; omega
        | succ i => simp only [steps, hst] at ht; exact h2 i (by omega) t ht

theorem step_grow {q : List I} {M : Nat} (hq : charsOf q ≤ M) {s t : St} (h : step q s = some t) (hs : ∀ j, (s.r j).size ≤ M) : ∀ j, (t.r j).size ≤ 2 * M + 1 := by
  unfold step at h
  cases hx : q[s.pc]? with
  | none => rw [hx] at h; cases h
  | some x =>
    rw [hx] at h
    simp only at h
    have hxc := charsOf_le hx
    have hup : ∀ (a : Nat) (y : T), y.size ≤ 2 * M + 1 → ∀ j, (upd s.r a y j).size ≤ 2 * M + 1 := by
      intro a y hy j
      unfold upd; split
      · exact hy
      · have := hs j; omega
    cases x with
    | set a y => simp only [step1, Option.some.injEq] at h; subst h; exact hup a y (by simp only [I.chars] at hxc; omega)
    | move a b => simp only [step1, Option.some.injEq] at h; subst h; exact hup a _ (by have := hs b; omega)
    | cons a b c =>
      simp only [step1] at h
      split at h
      · simp only [Option.some.injEq] at h; subst h; exact hup a _ (by have := hs b; have := hs c; simp only [T.size]; omega)
      · cases h
    | head a b => simp only [step1, Option.some.injEq] at h; subst h; exact hup a _ (by have := hs b; have := (s.r b).head_size; omega)
    | tail a b => simp only [step1, Option.some.injEq] at h; subst h; exact hup a _ (by have := hs b; have := (s.r b).tail_size; omega)
    | jump a d => simp only [step1, Option.some.injEq] at h; subst h; intro j; have := hs j; simp only; omega
theorem steps_grow {q : List I} : ∀ (i M : Nat) (s t : St), charsOf q ≤ M → (∀ j, (s.r j).size ≤ M) → steps q i s = some t → ∀ j, (t.r j).size + 1 ≤ (M + 1) * 2 ^ i
  | 0, M, s, t, hq, hs, h => by simp only [steps, Option.some.injEq] at h; subst h; intro j; have := hs j; simp; omega
  | i + 1, M, s, t, hq, hs, h => by
    simp only [steps] at h
    cases hst : step q s with
    | none => rw [hst] at h; cases h
    | some u =>
      rw [hst] at h
      have h1 := step_grow hq hst hs
      have := steps_grow i (2 * M + 1) u t (by omega) h1 h
      intro j
      have := this j
      rw [Nat.pow_succ, show (M + 1) * (2 ^ i * 2) = (2 * M + 1 + 1) * 2 ^ i by rw [Nat.mul_comm (2 ^ i), ← Nat.mul_assoc]; congr 1; omega]
      exact this

theorem itself_first {q : List I} {x y : T} {k : Nat} (hw : WF q) (hl : q.length ≤ 6) (hc : charsOf q ≤ 200) (hx : x.size ≤ 200) (hp : play q 6 0 (first x) = .ended y k) :
    k ≤ 6 ∧ ∃ m, m ≤ 32200 ∧ play uProg 32200 0 (first (.pair (codeT q) x)) = .ended y m := by
  have hMT : MaxT = 2000000 := rfl
  have hk := (play_size (by omega) (by omega) hp).2
  have hle : 100 * (q.length + 40) * (k + 1) ≤ 32200 := by
    have h1 : 100 * (q.length + 40) ≤ 4600 := by omega
    have := Nat.mul_le_mul h1 (show k + 1 ≤ 7 by omega)
    omega
  obtain ⟨m, h1, h2⟩ := univ_small (F := 32200) hw (by omega) hp hle (fun i hi t ht => by
    have h0 := steps_grow i 200 (first x) t hc (fun j => by simp only [first]; split; exact hx; simp [T.size]) ht
    have hpow : 2 ^ i ≤ 2 ^ 6 := Nat.pow_le_pow_right (by omega) (by omega)
    have hb : ∀ j, (t.r j).size ≤ 12863 := fun j => by
      have := h0 j
      have h3 : 201 * 2 ^ i ≤ 201 * 2 ^ 6 := Nat.mul_le_mul_left _ hpow
      simp at h3; omega
    have : ∀ l : List Nat, (l.map fun i => (t.r i).size).sum ≤ l.length * 12863 := by
      intro l
      induction l with
      | nil => simp
      | cons i l ih => have := hb i; simp; omega
    have h1 := this (List.range 32)
    simp only [List.length_range] at h1
    unfold sumR; omega)
  exact ⟨hk, m, Nat.le_trans h1 hle, h2⟩


theorem uProg_encl : 129 = (encP uProg).length := by rw [encP_length, uProg_len]
theorem itself_second {x y : T} {k F : Nat} (hp : play uProg 32200 0 (first x) = .ended y k) (hF : 100 * (129 + 40) * (k + 1) ≤ F) (hcalm : (follow uProg k 0 (sumR (first x).r) (first x)).2 ≤ 200000) :
    ∃ m, play uProg F 0 (first (.pair (codeT uProg) x)) = .ended y m := by
  have hMT : MaxT = 2000000 := rfl
  obtain ⟨m, _, h2⟩ := univ_small (F := F) uProg_wf (by rw [uProg_len]; omega) hp (by rw [uProg_len]; exact hF) (fun i hi t ht => by
    have := (follow_small (by omega) k 0 _ (first x) (Nat.le_refl _) hcalm).2 i hi t ht
    omega)
  exact ⟨m, h2⟩

set_option maxHeartbeats 8000000 in
set_option maxRecDepth 100000 in
theorem itself_any (w : World) (pA : Option Addr) (pn pc : Nat) (pp : List Ins) (hp : PMem w w.heap.size pA pn pp) (hpi : ∀ x ∈ pp, x.I64) (s : ByteArray) :
    Calls Try.prog 3 #[.slice pA pn pc, .string s] w fun e w' => e = .returned (.bool true) ∧ Below w.heap.size w w' := by
  have HP := hide hp
  have HI := hide hpi
  obtain ⟨O, hO⟩ : ∃ O, growSpec s 200 = O := ⟨_, rfl⟩
  have HOS : Hid (∀ t, O = some t → t.size ≤ 200) := hide (fun t ht => growSpec_size (by rw [← ht]; exact hO))
  have HGR : Hid (∀ W, Calls Try.prog 21 #[.string s, .int .i64 200] W (Grown_ 102 O W)) := hide (fun W => by have := grow_any s 200 W (by omega); rw [hO] at this; exact this)
  clear hp hpi hO
  go_enter Try.func3, Try.ntmps3
  go_wp2_with fail
  refine (universal_any w).mono ?_; rintro e w1 ⟨A1, c1, rfl, o1, b1⟩
  have U1 := hide (PMem.of_own (p := encP uProg) uProg_encl o1)
  have HSIM : Hid (∀ W, Below w1.heap.size w1 W → Calls Try.prog 23 #[.slice A1 129 c1] W fun e w' => e = .returned (.bool true) ∧ Below W.heap.size W w') := hide (fun W hW => simulates_yes W c1 A1 ((U1.out.below hW).more hW.size))
  have s1 := b1.size
  go_wp2_with fail
  refine (HGR.out w1).mono ?_; rintro e w2 ⟨p2, rfl, b2, _, r2⟩
  have HX := hide r2
  clear r2 HGR o1
  have F2 := b1.trans (b2.mono s1)
  have s2 := F2.size
  have t2 := b2.size
  go_wp2_with fail
  refine (good_any w2 pn pc pA pp 6 200 (by omega) (by omega) ((HP.out.below F2).more s2) HI.out).mono ?_; rintro e w3 ⟨bg, rfl, hg, b3⟩
  have HG := hide hg
  clear hg
  have V3 := b2.trans (b3.mono t2)
  have F3 := b1.trans (V3.mono s1)
  have HFIN : Hid (∀ W, Below w1.heap.size w1 W → Calls Try.prog 23 #[.slice A1 129 c1] W fun e w' => e = .returned (.bool true) ∧ Below w.heap.size w w') := hide (fun W hW => (HSIM.out W hW).mono fun e w' ⟨he, hb⟩ => ⟨he, b1.trans ((hW.trans (hb.mono hW.size)).mono s1)⟩)
  cases bg with
  | false =>
    go_wp2_with fail
    refine (HFIN.out w3 V3).mono ?_; rintro e w4 ⟨rfl, b4⟩
    go_wp2
    go_ret
    exact ⟨rfl, b4⟩
  | true =>
    cases O with
    | none =>
      go_wp2_with fail
      refine (HFIN.out w3 V3).mono ?_; rintro e w4 ⟨rfl, b4⟩
      go_wp2
      go_ret
      exact ⟨rfl, b4⟩
    | some x =>
      have hxs := HOS.out x rfl
      obtain ⟨q, rfl, qw, ql, qc⟩ := goodP_iff.1 (HG.out.1 rfl)
      have hpn : pn ≤ 6 := by rw [HP.out.1, encP_length]; exact ql
      have HX3 := hide ((HX.out x rfl).below b3)
      have HQ := hide qw
      clear HX HOS HG b2 b3 t2 F2 s2
      have HCQ : Hid (∀ W, Below w.heap.size w W → Calls Try.prog 26 #[.slice pA pn pc] W (TreeOut 102 (codeT q) W)) := hide (fun W hW => code_any W pn pc pA q ((HP.out.below hW).more hW.size) HQ.out (by omega) (by omega))
      have hcq : (codeT q).size ≤ 3000 := by
        have := codeT_size qw
        have h2 : q.length * (2 * q.length + 301) ≤ 6 * (2 * 6 + 301) := Nat.mul_le_mul ql (by omega)
        omega
      have HPU : Hid (∀ W p y f, Below w1.heap.size w1 W → Rep 102 W p y → y.size ≤ 100000000 → f ≤ 1000000000 → Calls Try.prog 24 #[.slice A1 129 c1, .pointer p, .int .i64 (f : Nat)] W (PlayPost 102 (play uProg f 0 (first y)) W)) := hide (fun W p y f hW hr hy hf =>
        play_any W 129 c1 A1 uProg f p y ((U1.out.below hW).more hW.size) uProg_wf (by rw [uProg_chars]; omega) (by omega) hr hy hf)
      clear qw
      go_wp2_with fail
      refine (HSIM.out w3 V3).mono ?_; rintro e w4 ⟨rfl, b4⟩
      have V4 := V3.trans (b4.mono V3.size)
      have F4 := b1.trans (V4.mono s1)
      have HX4 := hide (HX3.out.below b4)
      clear HX3 b4 V3 F3
      go_wp2_with fail
      refine (play_any w4 pn pc pA q 6 p2 x ((HP.out.below F4).more F4.size) HQ.out (by omega) (by omega) HX4.out (by omega) (by omega)).mono ?_; rintro e w5 ⟨p5, k5, how5, rfl, b5, hpost⟩
      have V5 := V4.trans (b5.mono V4.size)
      have F5 := b1.trans (V5.mono s1)
      have HX5 := hide (HX4.out.below b5)
      clear HX4 b5 V4 F4
      cases hpl : play q 6 0 (first x) with
      | going j =>
        rw [hpl] at hpost
        obtain ⟨rfl, rfl, rfl⟩ := hpost
        clear hpl
        go_wp2_with fail
        refine (HFIN.out w5 V5).mono ?_; rintro e w6 ⟨rfl, b6⟩
        go_wp2
        go_ret
        exact ⟨rfl, b6⟩
      | large j =>
        rw [hpl] at hpost
        obtain ⟨rfl, rfl, rfl⟩ := hpost
        clear hpl
        go_wp2_with fail
        refine (HFIN.out w5 V5).mono ?_; rintro e w6 ⟨rfl, b6⟩
        go_wp2
        go_ret
        exact ⟨rfl, b6⟩
      | ended y k =>
        rw [hpl] at hpost
        obtain ⟨rfl, rfl, hy⟩ := hpost
        have hys := (play_size (q := q) (by have : MaxT = 2000000 := rfl; omega) (by have : MaxT = 2000000 := rfl; omega) hpl).1
        obtain ⟨hk6, m, hm, hpu⟩ := itself_first HQ.out ql qc hxs hpl
        have HPL := hide hpu
        have HY := hide hy
        clear hpl hpu hy
        go_wp2_with fail
        refine (HCQ.out w5 F5).mono ?_; rintro e w6 ⟨p6, rfl, b6, r6⟩
        have V6 := V5.trans (b6.mono V5.size)
        have F6 := b1.trans (V6.mono s1)
        have HX6 := hide (HX5.out.below b6)
        have HY6 := hide (HY.out.below b6)
        clear HX5 HY b6 V5 F5
        go_wp2_with fail
        refine (pair_any w6 p6 p2 _ x r6 HX6.out (by omega)).mono ?_; rintro e w7 ⟨rfl, rfl⟩
        have r7 := Rep.pair_new r6 HX6.out
        have V7 := V6.alloc V6.size (.cells #[.pointer p6, .pointer p2, .int .i64 (T.pair (codeT q) x).size] 102)
        have F7 := F6.alloc F6.size (.cells #[.pointer p6, .pointer p2, .int .i64 (T.pair (codeT q) x).size] 102)
        have HX7 := hide (HX6.out.alloc (.cells #[.pointer p6, .pointer p2, .int .i64 (T.pair (codeT q) x).size] 102))
        have HY7 := hide (HY6.out.alloc (.cells #[.pointer p6, .pointer p2, .int .i64 (T.pair (codeT q) x).size] 102))
        obtain ⟨w7, hw7⟩ : ∃ z, z = w6.alloc (.cells #[.pointer p6, .pointer p2, .int .i64 (T.pair (codeT q) x).size] 102) := ⟨_, rfl⟩
        rw [← hw7] at r7 V7 F7 HX7 HY7 ⊢
        clear hw7 HX6 HY6 V6 F6 r6
        obtain ⟨inn, hin⟩ : ∃ z, z = T.pair (codeT q) x := ⟨_, rfl⟩
        rw [← hin] at r7 HPL
        have hins : inn.size ≤ 4000 := by rw [hin]; simp only [T.size]; omega
        have HIN := hide hin
        clear hin
        have KP := HPU.out w7 _ inn 32200 V7 r7 (by omega) (by omega)
        rw [HPL.out] at KP
        have HKP := hide KP
        clear KP
        go_wp2_with fail
        refine HKP.out.mono ?_; rintro e w8 ⟨p8, k8, how8, rfl, b8, rfl, rfl, r8⟩
        have V8 := V7.trans (b8.mono V7.size)
        have F8 := b1.trans (V8.mono s1)
        have HX8 := hide (HX7.out.below b8)
        have HY8 := hide (HY7.out.below b8)
        clear HKP HX7 HY7 b8 V7 F7 r7
        go_wp2_with fail
        refine (equal_any w8 p5 p8 y y HY8.out r8 (by unfold MaxT at hys; omega) (by unfold MaxT at hys; omega)).mono ?_; rintro e w9 ⟨rfl, b9⟩
        have V9 := V8.trans (b9.mono V8.size)
        have F9 := b1.trans (V9.mono s1)
        have HX9 := hide (HX8.out.below b9)
        have HY9 := hide (HY8.out.below b9)
        clear HX8 HY8 b9 V8 F8 r8
        simp only [decide_true]
        by_cases hm3 : 3000 < m
        · go_wp2_with fail
          refine (HFIN.out w9 V9).mono ?_; rintro e w10 ⟨rfl, b10⟩
          go_wp2
          go_ret
          exact ⟨rfl, b10⟩
        · have hmd : decide (3000 < (m : Int)) = false := by simp; omega
          go_wp2_with fail
          refine (HCQ.out w9 F9).mono ?_; rintro e w10 ⟨p10, rfl, b10, r10⟩
          have V10 := V9.trans (b10.mono V9.size)
          have HX10 := hide (HX9.out.below b10)
          have HY10 := hide (HY9.out.below b10)
          clear HX9 HY9 b10 V9 F9
          go_wp2_with fail
          refine (pair_any w10 p10 p2 _ x r10 HX10.out (by omega)).mono ?_; rintro e w11 ⟨rfl, rfl⟩
          have r11 := Rep.pair_new r10 HX10.out
          have V11 := V10.alloc V10.size (.cells #[.pointer p10, .pointer p2, .int .i64 (T.pair (codeT q) x).size] 102)
          have HX11 := hide (HX10.out.alloc (.cells #[.pointer p10, .pointer p2, .int .i64 (T.pair (codeT q) x).size] 102))
          have HY11 := hide (HY10.out.alloc (.cells #[.pointer p10, .pointer p2, .int .i64 (T.pair (codeT q) x).size] 102))
          obtain ⟨w11, hw11⟩ : ∃ z, z = w10.alloc (.cells #[.pointer p10, .pointer p2, .int .i64 (T.pair (codeT q) x).size] 102) := ⟨_, rfl⟩
          rw [← hw11] at r11 V11 HX11 HY11 ⊢
          rw [← HIN.out] at r11
          clear hw11 HX10 HY10 V10 r10
          have F11 := b1.trans (V11.mono s1)
          have KC := calm_any w11 129 c1 A1 uProg m _ inn ((U1.out.below V11).more V11.size) uProg_wf (by rw [uProg_chars]; omega) (by omega) r11 (by omega) (by omega)
          obtain ⟨CA, hCA⟩ : ∃ z, z = decide ((follow uProg m 0 (sumR (first inn).r) (first inn)).2 ≤ 200000) := ⟨_, rfl⟩
          rw [← hCA] at KC
          have HCA := hide hCA
          have HKC := hide KC
          clear hCA KC
          go_wp2_with fail
          refine HKC.out.mono ?_; rintro e w12 ⟨rfl, b12⟩
          have V12 := V11.trans (b12.mono V11.size)
          have HX12 := hide (HX11.out.below b12)
          have HY12 := hide (HY11.out.below b12)
          clear HKC HX11 HY11 b12 V11 F11 r11
          cases CA with
          | false =>
            go_wp2_with fail
            refine (HFIN.out w12 V12).mono ?_; rintro e w13 ⟨rfl, b13⟩
            go_wp2
            go_ret
            exact ⟨rfl, b13⟩
          | true =>
            have hcalm := of_decide_eq_true HCA.out.symm
            have F12 := b1.trans (V12.mono s1)
            have HCALM := hide hcalm
            clear hcalm HCA
            go_wp2_with fail
            refine (code_any w12 129 c1 A1 uProg ((U1.out.below V12).more V12.size) uProg_wf (by rw [uProg_chars]; omega) (by omega)).mono ?_; rintro e w13 ⟨p13, rfl, b13, r13⟩
            have V13 := V12.trans (b13.mono V12.size)
            have HX13 := hide (HX12.out.below b13)
            have HY13 := hide (HY12.out.below b13)
            clear HX12 HY12 b13 V12 F12
            have F13 := b1.trans (V13.mono s1)
            go_wp2_with fail
            refine (HCQ.out w13 F13).mono ?_; rintro e w14 ⟨p14, rfl, b14, r14⟩
            have V14 := V13.trans (b14.mono V13.size)
            have HX14 := hide (HX13.out.below b14)
            have HY14 := hide (HY13.out.below b14)
            have R14 := hide (r13.below b14)
            clear HX13 HY13 b14 V13 F13 r13
            go_wp2_with fail
            refine (pair_any w14 p14 p2 _ x r14 HX14.out (by omega)).mono ?_; rintro e w15 ⟨rfl, rfl⟩
            have r15 := Rep.pair_new r14 HX14.out
            have V15 := V14.alloc V14.size (.cells #[.pointer p14, .pointer p2, .int .i64 (T.pair (codeT q) x).size] 102)
            have HY15 := hide (HY14.out.alloc (.cells #[.pointer p14, .pointer p2, .int .i64 (T.pair (codeT q) x).size] 102))
            have R15 := hide (R14.out.alloc (.cells #[.pointer p14, .pointer p2, .int .i64 (T.pair (codeT q) x).size] 102))
            obtain ⟨w15, hw15⟩ : ∃ z, z = w14.alloc (.cells #[.pointer p14, .pointer p2, .int .i64 (T.pair (codeT q) x).size] 102) := ⟨_, rfl⟩
            rw [← hw15] at r15 V15 HY15 R15 ⊢
            rw [← HIN.out] at r15
            clear hw15 HX14 HY14 R14 V14 r14
            have hucs := uProg_code
            obtain ⟨UC, hUC⟩ : ∃ z, z = codeT uProg := ⟨_, rfl⟩
            rw [← hUC] at hucs R15
            go_wp2_with fail
            refine (pair_any w15 p13 _ UC inn R15.out r15 (by omega)).mono ?_; rintro e w16 ⟨rfl, rfl⟩
            have r16 := Rep.pair_new R15.out r15
            obtain ⟨ob, hob⟩ : ∃ z, z = Obj.cells #[.pointer p13, .pointer (some ⟨w14.heap.size, 0, none⟩), .int .i64 (T.pair UC inn).size] 102 := ⟨_, rfl⟩
            rw [← hob] at r16 ⊢
            have V16 := V15.alloc V15.size ob
            have HY16 := hide (HY15.out.alloc ob)
            obtain ⟨w16, hw16⟩ : ∃ z, z = w15.alloc ob := ⟨_, rfl⟩
            rw [← hw16] at r16 V16 HY16 ⊢
            clear hw16 hob HY15 R15 V15 r15
            obtain ⟨m2, hpu2⟩ := itself_second (F := 16900 * (m + 1)) HPL.out (by omega) HCALM.out
            rw [← hUC] at hpu2
            have KP2 := HPU.out w16 _ (T.pair UC inn) (16900 * (m + 1)) V16 r16 (by simp only [T.size]; omega) (by omega)
            rw [hpu2] at KP2
            have e16 : ((16900 * (m + 1) : Nat) : Int) = 16900 * ((m : Int) + 1) := by omega
            rw [e16] at KP2
            have HKP2 := hide KP2
            clear KP2 hpu2 hUC e16
            go_wp2_with fail
            refine HKP2.out.mono ?_; rintro e w17 ⟨p17, k17, how17, rfl, b17, rfl, rfl, r17⟩
            have V17 := V16.trans (b17.mono V16.size)
            have HY17 := hide (HY16.out.below b17)
            clear HKP2 HY16 b17 V16 r16
            go_wp2_with fail
            refine (equal_any w17 p5 p17 y y HY17.out r17 (by unfold MaxT at hys; omega) (by unfold MaxT at hys; omega)).mono ?_; rintro e w18 ⟨rfl, b18⟩
            have V18 := V17.trans (b18.mono V17.size)
            simp only [decide_true]
            go_wp2_with fail
            refine (HFIN.out w18 V18).mono ?_; rintro e w19 ⟨rfl, b19⟩
            go_wp2
            go_ret
            exact ⟨rfl, b19⟩
end Go.Proofs.Ytgbieakahgkkpaa
