/- code: the code of a program as a tree. (Printed by gen/gentopm.py.) -/
import Derived.Test.YtgbieakahgkkpaaTopD
import Derived.Test.YtgbieakahgkkpaaTopE
import Derived.Test.YtgbieakahgkkpaaRun
import Derived.Test.YtgbieakahgkkpaaUniA
import Derived.WalkKit
import Derived.WalkSpells
import Derived.WalkLawsBesides
import Derived.Outline
import Derived.Deep.RegionHeld3
import Derived.Deep.RegionLaw
import Derived.Deep.DrawnRows
import Derived.KernelRfl
namespace Go.Proofs.Ytgbieakahgkkpaa
open Go.RowKit
attribute [local go_sem ↓] Go.wp_at_zero Go.wp_at_succ

theorem T.num_nm (n : Nat) : T.num n = T.nm n := by
  induction n with
  | zero => rfl
  | succ n ih => simp [T.num, T.nm, ih]

theorem code_size {i n : Nat} {x : I} (hw : wfI i n x) (hi : i ≤ n) : x.code.size ≤ x.chars + (2 * n + 300) := by
  cases x with
  | set a t => simp only [wfI] at hw; simp only [I.code, T.size, T.nm_size, I.chars]; omega
  | move a b => simp only [wfI] at hw; simp only [I.code, T.size, T.nm_size, I.chars]; omega
  | cons a b c => simp only [wfI] at hw; simp only [I.code, T.size, T.nm_size, I.chars]; omega
  | head a b => simp only [wfI] at hw; simp only [I.code, T.size, T.nm_size, I.chars]; omega
  | tail a b => simp only [wfI] at hw; simp only [I.code, T.size, T.nm_size, I.chars]; omega
  | jump a d =>
    simp only [wfI] at hw
    simp only [I.code, I.chars]
    split <;> simp only [T.size, T.nm_size] <;> omega
theorem codeT_size_aux : ∀ (q : List I) (k n : Nat), (∀ (i : Nat) (x : I), q[i]? = some x → wfI (k + i) n x) → k + q.length ≤ n → (codeT q).size ≤ 1 + charsOf q + q.length * (2 * n + 301)
  | [], _, _, _, _ => by simp [codeT, T.list, T.size]
  | x :: q, k, n, h, hn => by
    have ih := codeT_size_aux q (k + 1) n (fun i y hy => by have := h (i + 1) y (by simpa using hy); rwa [show k + (i + 1) = k + 1 + i by omega] at this) (by simp at hn; omega)
    have h0 := code_size (h 0 x rfl) (by simp at hn; omega)
    have e1 : (codeT (x :: q)).size = 1 + x.code.size + (codeT q).size := rfl
    have e2 : charsOf (x :: q) = x.chars + charsOf q := by simp [charsOf]
    rw [e1, e2, List.length_cons, Nat.succ_mul]
    omega
theorem codeT_size {q : List I} (h : WF q) : (codeT q).size ≤ 1 + charsOf q + q.length * (2 * q.length + 301) := codeT_size_aux q 0 q.length (fun i x hx => by rw [Nat.zero_add]; exact h i x hx) (by omega)
theorem codeT_drop_size {q : List I} (h : WF q) (k : Nat) : (codeT (q.drop k)).size ≤ (codeT q).size := by
  induction k generalizing q with
  | zero => simp
  | succ k ih =>
    have gen : ∀ (k : Nat) (q : List I), (codeT (q.drop k)).size ≤ (codeT q).size := by
      intro k
      induction k with
      | zero => intro q; simp
      | succ k ih =>
        intro q
        cases q with
        | nil => simp
        | cons x q =>
          rw [List.drop_succ_cons]
          have := ih q
          have e1 : (codeT (x :: q)).size = 1 + x.code.size + (codeT q).size := rfl
          omega
    exact gen _ _

/-- number, into the plain words. -/
theorem num_of (w : World) (n : Int) (k : Nat) (e : n = k) (hn : n ≤ 10000000) : Calls Try.prog 99 #[.int .i64 n] w (TreeOut 102 (T.nm k) w) := by
  have h := number_any w n hn
  have : n.toNat = k := by omega
  rw [this, T.num_nm] at h
  exact h

theorem num_neg (w : World) (n : Int) (e : n ≤ 0) : Calls Try.prog 99 #[.int .i64 n] w fun e w' => ∃ p, e = .returned (.pointer p) ∧ Below w.heap.size w w' ∧ Rep 102 w' p .nil := by
  have h := number_any w n (by omega)
  have : n.toNat = 0 := by omega
  rw [this] at h
  exact h

/-- The head of a round of the loop that makes a code. -/
def CodeRel (q : List I) (n : Nat) (w : World) (c i : Value) (wr : World) : Prop := ∃ (k : Nat) (p : Option Addr), k ≤ n ∧ i = .int .i64 ((k : Int) - 1) ∧ c = .pointer p ∧ Rep 102 wr p (codeT (q.drop k)) ∧ Below w.heap.size w wr

theorem rep_sz {ty : TypeId} {w : World} {a b : Nat} {t : T} (h : Rep ty w (some ⟨a, 0, none⟩) t) (e : b = a) : Rep ty w (some ⟨b, 0, none⟩) t := by subst e; exact h
theorem grow_strM (t : T) (h : t.size ≤ 2000000) : growSpec t.str 2000000 = some t := by
  unfold growSpec
  rw [if_neg (by rw [T.str_size]; omega), T.str_list, parse_bytes]

set_option maxHeartbeats 16000000 in
set_option maxRecDepth 100000 in
theorem code_any (w : World) (n cap : Nat) (A : Option Addr) (q : List I) (h : PMem w w.heap.size A n (encP q)) (hw : WF q) (hq : charsOf q ≤ 2000000) (hn : n ≤ 4000) : Calls Try.prog 26 #[.slice A n cap] w (TreeOut 102 (codeT q) w) := by
  have hnq : n = q.length := by rw [h.1, encP_length]
  have hcs := codeT_size hw
  have hcs2 : (codeT q).size ≤ 100000000000 := by
    have : q.length * (2 * q.length + 301) ≤ 4000 * (2 * 4000 + 301) := Nat.mul_le_mul (by omega) (by omega)
    omega
  have HNQ := hide hnq
  have HQ := hide hq
  clear hcs hnq
  go_enter Try.func26, Try.ntmps26
  go_wp2
  go_loopw [3, 4] (fun c i wr => CodeRel q n w c i wr) (fun _ i _ => (intOf i + 1).toNat)
  case atStart => exact ⟨n, none, Nat.le_refl _, rfl, rfl, by rw [HNQ.out, List.drop_length]; rfl, Below.refl _ _⟩
  case round =>
    obtain ⟨k, pc, hk, rfl, rfl, hrep, hbel⟩ := hrel
    match k, hk with
    | 0, _ =>
      rw [List.drop_zero] at hrep
      go_wp2
      go_ret
      exact ⟨pc, rfl, hbel, hrep⟩
    | j + 1, hk =>
      have e : (((j + 1 : Nat) : Int) - 1) = (j : Int) := by omega
      rw [e]
      clear e
      have hsz := hbel.size
      have hds := codeT_drop_size hw (j + 1)
      obtain ⟨b0, off, y, rfl, hb, hx, c0, c1, c2, c3, c4⟩ := (h.below hbel).at_ j (by omega)
      have hnq := HNQ.out
      obtain ⟨z, hz, rfl⟩ := encP_get hx
      have hwz := hw j z hz
      have hchars := charsOf_le hz
      have hcode : codeT (q.drop j) = .pair z.code (codeT (q.drop (j + 1))) := by
        have hlt : j < q.length := (List.getElem?_eq_some_iff.1 hz).1
        have e : q[j] = z := by rw [List.getElem?_eq_getElem hlt] at hz; cases hz; rfl
        unfold codeT
        rw [List.drop_eq_getElem_cons hlt, e]; rfl
      have HCODE := hide hcode
      have HZ := hide hz
      have HREP := hide hrep
      have hb0 : b0 < wr.heap.size := by omega
      have hj0 : (0 : Int) ≤ (j : Int) := by omega
      have hj1 : (j : Int) < (n : Int) := by omega
      have hjn : j ≤ 4000 := by omega
      have hcz : (codeT (q.drop (j + 1))).size ≤ 100000000000 := by omega
      have hqq := HQ.out
      have hql : q.length ≤ 4000 := by omega
      clear hx hz hcode hq hds hnq hcs2 hw h
      cases z with
      | set a t =>
        simp only [wfI] at hwz
        simp only [I.chars] at hchars
        simp only [I.enc] at c0 c1 c2 c3 c4
        have hblk := Blk.new wr 41 #[.int .i64 0, .int .i64 a, .int .i64 (0), .int .i64 0, .string t.str]
        have HBLK := hide hblk
        have d0 : (wr.alloc (.cells #[.int .i64 0, .int .i64 a, .int .i64 (0), .int .i64 0, .string t.str] 41)).cell? ⟨wr.heap.size, 0, none⟩ = some (.int .i64 (0)) := by rw [hblk.cell]; rfl
        have d1 : (wr.alloc (.cells #[.int .i64 0, .int .i64 a, .int .i64 (0), .int .i64 0, .string t.str] 41)).cell? ⟨wr.heap.size, 1, none⟩ = some (.int .i64 (a)) := by rw [hblk.cell]; rfl
        have d2 : (wr.alloc (.cells #[.int .i64 0, .int .i64 a, .int .i64 (0), .int .i64 0, .string t.str] 41)).cell? ⟨wr.heap.size, 2, none⟩ = some (.int .i64 (0)) := by rw [hblk.cell]; rfl
        have d3 : (wr.alloc (.cells #[.int .i64 0, .int .i64 a, .int .i64 (0), .int .i64 0, .string t.str] 41)).cell? ⟨wr.heap.size, 3, none⟩ = some (.int .i64 (0)) := by rw [hblk.cell]; rfl
        have d4 : (wr.alloc (.cells #[.int .i64 0, .int .i64 a, .int .i64 (0), .int .i64 0, .string t.str] 41)).cell? ⟨wr.heap.size, 4, none⟩ = some (.string t.str) := by rw [hblk.cell]; rfl
        clear hblk
        have FA : Below w.heap.size w (wr.alloc (.cells #[.int .i64 0, .int .i64 a, .int .i64 (0), .int .i64 0, .string t.str] 41)) := hbel.alloc hsz _
        have SA : w.heap.size ≤ (wr.alloc (.cells #[.int .i64 0, .int .i64 a, .int .i64 (0), .int .i64 0, .string t.str] 41)).heap.size := FA.size
        have RA := hide (hrep.alloc (.cells #[.int .i64 0, .int .i64 a, .int .i64 (0), .int .i64 0, .string t.str] 41))
        go_wp2_with fail
        refine (grow_some t.str 2000000 _ t (by omega) (grow_strM t (by omega))).mono ?_; rintro e w1 ⟨p1, rfl, bq1, r1⟩
        have q0 : w1.cell? ⟨wr.heap.size, 0, none⟩ = some (.int .i64 0) := by rw [(HBLK.out.below bq1 HBLK.out.lt).cell]; rfl
        have q1 : w1.cell? ⟨wr.heap.size, 1, none⟩ = some (.int .i64 a) := by rw [(HBLK.out.below bq1 HBLK.out.lt).cell]; rfl
        have BQ := hide (HBLK.out.below bq1 HBLK.out.lt)
        have RB := hide (RA.out.below bq1)
        have FB := FA.trans (bq1.mono SA)
        obtain ⟨W1, hW1⟩ : ∃ z, z = w1 := ⟨_, rfl⟩
        rw [← hW1] at q0 q1 BQ RB FB r1 ⊢
        clear hW1
        obtain ⟨tr, htr⟩ : ∃ z, z = t := ⟨_, rfl⟩
        rw [← htr] at r1
        have htrs : tr.size ≤ 10000000 := by rw [htr]; omega
        have HTR := hide htr
        have HR := hide r1
        clear htr r1
        have FBs := FB.size
        go_wp2_with fail
        go_region_held3 (fun W => W.cell? ⟨wr.heap.size, 0, none⟩ = some (.int .i64 0) ∧ W.cell? ⟨wr.heap.size, 1, none⟩ = some (.int .i64 a)) (first | go_keep | (constructor <;> assumption)) (first | (go_at_call 25; (with_reducible refine (pair_any _ (some ⟨v2.heap.size + 1, 0, none⟩) pc (T.pair (T.nm 0) (.pair (T.nm a) tr)) (codeT (q.drop (j + 1))) (rep_sz (Rep.pair_new (ty := 102) (w := v2.alloc (.cells #[.pointer o2, .pointer p1, .int .i64 (T.pair (T.nm a) tr).size] 102)) ((s1.below e2).alloc _) (Rep.pair_new s2 ((HR.out.drew.below e1).below e2))) (by simp)) ((((((RB.out.drew.below e1).below e2).alloc _).alloc _))) (by simp only [T.size, T.nm_size]; omega)).mono ?_); rintro e v5 ⟨rfl, rfl⟩; have C5 := HC4.out.alloc (.cells #[.pointer (some ⟨v2.heap.size + 1, 0, none⟩), .pointer pc, .int .i64 (T.pair (T.pair (T.nm 0) (.pair (T.nm a) tr)) (codeT (q.drop (j + 1)))).size] 102); have x5 : (((v2.alloc (.cells #[.pointer o2, .pointer p1, .int .i64 (T.pair (T.nm a) tr).size] 102)).alloc (.cells #[.pointer o1, .pointer (some ⟨v2.heap.size, 0, none⟩), .int .i64 (T.pair (T.nm 0) (.pair (T.nm a) tr)).size] 102)).alloc (.cells #[.pointer (some ⟨v2.heap.size + 1, 0, none⟩), .pointer pc, .int .i64 (T.pair (T.pair (T.nm 0) (.pair (T.nm a) tr)) (codeT (q.drop (j + 1)))).size] 102)).cell? ⟨wr.heap.size, 0, none⟩ = some (.int .i64 0) := (C5.cell 0).trans rfl; have x5b : (((v2.alloc (.cells #[.pointer o2, .pointer p1, .int .i64 (T.pair (T.nm a) tr).size] 102)).alloc (.cells #[.pointer o1, .pointer (some ⟨v2.heap.size, 0, none⟩), .int .i64 (T.pair (T.nm 0) (.pair (T.nm a) tr)).size] 102)).alloc (.cells #[.pointer (some ⟨v2.heap.size + 1, 0, none⟩), .pointer pc, .int .i64 (T.pair (T.pair (T.nm 0) (.pair (T.nm a) tr)) (codeT (q.drop (j + 1)))).size] 102)).cell? ⟨wr.heap.size, 1, none⟩ = some (.int .i64 a) := (C5.cell 1).trans rfl; have HC5 := hide C5; clear C5) | (go_at_call 25; (with_reducible refine (pair_any _ o1 (some ⟨v2.heap.size, 0, none⟩) (T.nm 0) (.pair (T.nm a) tr) ((s1.below e2).alloc _) (Rep.pair_new s2 ((HR.out.drew.below e1).below e2)) (by simp only [T.size, T.nm_size]; omega)).mono ?_); rintro e v4 ⟨rfl, rfl⟩; have C4 := HC3.out.alloc (.cells #[.pointer o1, .pointer (some ⟨v2.heap.size, 0, none⟩), .int .i64 (T.pair (T.nm 0) (.pair (T.nm a) tr)).size] 102); have x4 : ((v2.alloc (.cells #[.pointer o2, .pointer p1, .int .i64 (T.pair (T.nm a) tr).size] 102)).alloc (.cells #[.pointer o1, .pointer (some ⟨v2.heap.size, 0, none⟩), .int .i64 (T.pair (T.nm 0) (.pair (T.nm a) tr)).size] 102)).cell? ⟨wr.heap.size, 0, none⟩ = some (.int .i64 0) := (C4.cell 0).trans rfl; have x4b : ((v2.alloc (.cells #[.pointer o2, .pointer p1, .int .i64 (T.pair (T.nm a) tr).size] 102)).alloc (.cells #[.pointer o1, .pointer (some ⟨v2.heap.size, 0, none⟩), .int .i64 (T.pair (T.nm 0) (.pair (T.nm a) tr)).size] 102)).cell? ⟨wr.heap.size, 1, none⟩ = some (.int .i64 a) := (C4.cell 1).trans rfl; have HC4 := hide C4; clear C4) | (go_at_call 25; (with_reducible refine (pair_any _ o2 p1 (T.nm a) tr s2 ((HR.out.drew.below e1).below e2) (by rw [T.nm_size]; omega)).mono ?_); rintro e v3 ⟨rfl, rfl⟩; have C3 := HC2.out.alloc (.cells #[.pointer o2, .pointer p1, .int .i64 (T.pair (T.nm a) tr).size] 102); have x3 : (v2.alloc (.cells #[.pointer o2, .pointer p1, .int .i64 (T.pair (T.nm a) tr).size] 102)).cell? ⟨wr.heap.size, 0, none⟩ = some (.int .i64 0) := (C3.cell 0).trans rfl; have x3b : (v2.alloc (.cells #[.pointer o2, .pointer p1, .int .i64 (T.pair (T.nm a) tr).size] 102)).cell? ⟨wr.heap.size, 1, none⟩ = some (.int .i64 a) := (C3.cell 1).trans rfl; have HC3 := hide C3; clear C3) | (go_at_call 99; (with_reducible refine (num_of _ (a : Int) a rfl (by omega)).mono ?_); rintro e v2 ⟨o2, rfl, e2, s2⟩; have C2 := HC1.out.below e2 HC1.out.lt; have x2 : v2.cell? ⟨wr.heap.size, 0, none⟩ = some (.int .i64 0) := (C2.cell 0).trans rfl; have x2b : v2.cell? ⟨wr.heap.size, 1, none⟩ = some (.int .i64 a) := (C2.cell 1).trans rfl; have HC2 := hide C2; clear C2) | (go_at_call 99; (with_reducible refine (num_of _ (0 : Int) 0 rfl (by omega)).mono ?_); rintro e v1 ⟨o1, rfl, e1, s1⟩; have C1 := BQ.out.drew.below e1 BQ.out.lt; have x1 : v1.cell? ⟨wr.heap.size, 0, none⟩ = some (.int .i64 0) := (C1.cell 0).trans rfl; have x1b : v1.cell? ⟨wr.heap.size, 1, none⟩ = some (.int .i64 a) := (C1.cell 1).trans rfl; have HC1 := hide C1; clear C1))
        go_wp2
        go_roundw
        case rel =>
          have hw2 : Below w.heap.size w v2 := (FB.drew.trans (e1.mono (by simpa using FBs))).trans (e2.mono (by have := e1.size; simp at this; omega))
          have hs2 := hw2.size
          refine ⟨j, _, by omega, by simp, rfl, ?_, ((hw2.alloc hs2 _).alloc (by simp; omega) _).alloc (by simp; omega) _⟩
          have e : codeT (q.drop j) = T.pair (T.pair (T.nm 0) (.pair (T.nm a) tr)) (codeT (q.drop (j + 1))) := by rw [HCODE.out]; rw [HTR.out]; rfl
          rw [e]
          exact rep_sz (Rep.pair_new (rep_sz (Rep.pair_new (ty := 102) (w := v2.alloc (.cells #[.pointer o2, .pointer p1, .int .i64 (T.pair (T.nm a) tr).size] 102)) ((s1.below e2).alloc _) (Rep.pair_new s2 ((HR.out.drew.below e1).below e2))) (by simp)) ((((((RB.out.drew.below e1).below e2).alloc _).alloc _)))) (by simp)
        case measure => simp [intOf]
      | move a b =>
        simp only [wfI] at hwz
        simp only [I.chars] at hchars
        simp only [I.enc] at c0 c1 c2 c3 c4
        have hblk := Blk.new wr 41 #[.int .i64 1, .int .i64 a, .int .i64 (b), .int .i64 0, .string ByteArray.empty]
        have HBLK := hide hblk
        have d0 : (wr.alloc (.cells #[.int .i64 1, .int .i64 a, .int .i64 (b), .int .i64 0, .string ByteArray.empty] 41)).cell? ⟨wr.heap.size, 0, none⟩ = some (.int .i64 (1)) := by rw [hblk.cell]; rfl
        have d1 : (wr.alloc (.cells #[.int .i64 1, .int .i64 a, .int .i64 (b), .int .i64 0, .string ByteArray.empty] 41)).cell? ⟨wr.heap.size, 1, none⟩ = some (.int .i64 (a)) := by rw [hblk.cell]; rfl
        have d2 : (wr.alloc (.cells #[.int .i64 1, .int .i64 a, .int .i64 (b), .int .i64 0, .string ByteArray.empty] 41)).cell? ⟨wr.heap.size, 2, none⟩ = some (.int .i64 (b)) := by rw [hblk.cell]; rfl
        have d3 : (wr.alloc (.cells #[.int .i64 1, .int .i64 a, .int .i64 (b), .int .i64 0, .string ByteArray.empty] 41)).cell? ⟨wr.heap.size, 3, none⟩ = some (.int .i64 (0)) := by rw [hblk.cell]; rfl
        have d4 : (wr.alloc (.cells #[.int .i64 1, .int .i64 a, .int .i64 (b), .int .i64 0, .string ByteArray.empty] 41)).cell? ⟨wr.heap.size, 4, none⟩ = some (.string ByteArray.empty) := by rw [hblk.cell]; rfl
        clear hblk
        have FA : Below w.heap.size w (wr.alloc (.cells #[.int .i64 1, .int .i64 a, .int .i64 (b), .int .i64 0, .string ByteArray.empty] 41)) := hbel.alloc hsz _
        have SA : w.heap.size ≤ (wr.alloc (.cells #[.int .i64 1, .int .i64 a, .int .i64 (b), .int .i64 0, .string ByteArray.empty] 41)).heap.size := FA.size
        have RA := hide (hrep.alloc (.cells #[.int .i64 1, .int .i64 a, .int .i64 (b), .int .i64 0, .string ByteArray.empty] 41))
        go_wp2_with fail
        refine (num_of _ (b : Int) b rfl (by omega)).mono ?_; rintro e w1 ⟨p1, rfl, bq1, r1⟩
        have q0 : w1.cell? ⟨wr.heap.size, 0, none⟩ = some (.int .i64 1) := by rw [(HBLK.out.below bq1 HBLK.out.lt).cell]; rfl
        have q1 : w1.cell? ⟨wr.heap.size, 1, none⟩ = some (.int .i64 a) := by rw [(HBLK.out.below bq1 HBLK.out.lt).cell]; rfl
        have BQ := hide (HBLK.out.below bq1 HBLK.out.lt)
        have RB := hide (RA.out.below bq1)
        have FB := FA.trans (bq1.mono SA)
        obtain ⟨W1, hW1⟩ : ∃ z, z = w1 := ⟨_, rfl⟩
        rw [← hW1] at q0 q1 BQ RB FB r1 ⊢
        clear hW1
        obtain ⟨tr, htr⟩ : ∃ z, z = (T.nm b) := ⟨_, rfl⟩
        rw [← htr] at r1
        have htrs : tr.size ≤ 10000000 := by rw [htr]; rw [T.nm_size]; omega
        have HTR := hide htr
        have HR := hide r1
        clear htr r1
        have FBs := FB.size
        go_wp2_with fail
        go_region_held3 (fun W => W.cell? ⟨wr.heap.size, 0, none⟩ = some (.int .i64 1) ∧ W.cell? ⟨wr.heap.size, 1, none⟩ = some (.int .i64 a)) (first | go_keep | (constructor <;> assumption)) (first | (go_at_call 25; (with_reducible refine (pair_any _ (some ⟨v2.heap.size + 1, 0, none⟩) pc (T.pair (T.nm 1) (.pair (T.nm a) tr)) (codeT (q.drop (j + 1))) (rep_sz (Rep.pair_new (ty := 102) (w := v2.alloc (.cells #[.pointer o2, .pointer p1, .int .i64 (T.pair (T.nm a) tr).size] 102)) ((s1.below e2).alloc _) (Rep.pair_new s2 ((HR.out.drew.below e1).below e2))) (by simp)) ((((((RB.out.drew.below e1).below e2).alloc _).alloc _))) (by simp only [T.size, T.nm_size]; omega)).mono ?_); rintro e v5 ⟨rfl, rfl⟩; have C5 := HC4.out.alloc (.cells #[.pointer (some ⟨v2.heap.size + 1, 0, none⟩), .pointer pc, .int .i64 (T.pair (T.pair (T.nm 1) (.pair (T.nm a) tr)) (codeT (q.drop (j + 1)))).size] 102); have x5 : (((v2.alloc (.cells #[.pointer o2, .pointer p1, .int .i64 (T.pair (T.nm a) tr).size] 102)).alloc (.cells #[.pointer o1, .pointer (some ⟨v2.heap.size, 0, none⟩), .int .i64 (T.pair (T.nm 1) (.pair (T.nm a) tr)).size] 102)).alloc (.cells #[.pointer (some ⟨v2.heap.size + 1, 0, none⟩), .pointer pc, .int .i64 (T.pair (T.pair (T.nm 1) (.pair (T.nm a) tr)) (codeT (q.drop (j + 1)))).size] 102)).cell? ⟨wr.heap.size, 0, none⟩ = some (.int .i64 1) := (C5.cell 0).trans rfl; have x5b : (((v2.alloc (.cells #[.pointer o2, .pointer p1, .int .i64 (T.pair (T.nm a) tr).size] 102)).alloc (.cells #[.pointer o1, .pointer (some ⟨v2.heap.size, 0, none⟩), .int .i64 (T.pair (T.nm 1) (.pair (T.nm a) tr)).size] 102)).alloc (.cells #[.pointer (some ⟨v2.heap.size + 1, 0, none⟩), .pointer pc, .int .i64 (T.pair (T.pair (T.nm 1) (.pair (T.nm a) tr)) (codeT (q.drop (j + 1)))).size] 102)).cell? ⟨wr.heap.size, 1, none⟩ = some (.int .i64 a) := (C5.cell 1).trans rfl; have HC5 := hide C5; clear C5) | (go_at_call 25; (with_reducible refine (pair_any _ o1 (some ⟨v2.heap.size, 0, none⟩) (T.nm 1) (.pair (T.nm a) tr) ((s1.below e2).alloc _) (Rep.pair_new s2 ((HR.out.drew.below e1).below e2)) (by simp only [T.size, T.nm_size]; omega)).mono ?_); rintro e v4 ⟨rfl, rfl⟩; have C4 := HC3.out.alloc (.cells #[.pointer o1, .pointer (some ⟨v2.heap.size, 0, none⟩), .int .i64 (T.pair (T.nm 1) (.pair (T.nm a) tr)).size] 102); have x4 : ((v2.alloc (.cells #[.pointer o2, .pointer p1, .int .i64 (T.pair (T.nm a) tr).size] 102)).alloc (.cells #[.pointer o1, .pointer (some ⟨v2.heap.size, 0, none⟩), .int .i64 (T.pair (T.nm 1) (.pair (T.nm a) tr)).size] 102)).cell? ⟨wr.heap.size, 0, none⟩ = some (.int .i64 1) := (C4.cell 0).trans rfl; have x4b : ((v2.alloc (.cells #[.pointer o2, .pointer p1, .int .i64 (T.pair (T.nm a) tr).size] 102)).alloc (.cells #[.pointer o1, .pointer (some ⟨v2.heap.size, 0, none⟩), .int .i64 (T.pair (T.nm 1) (.pair (T.nm a) tr)).size] 102)).cell? ⟨wr.heap.size, 1, none⟩ = some (.int .i64 a) := (C4.cell 1).trans rfl; have HC4 := hide C4; clear C4) | (go_at_call 25; (with_reducible refine (pair_any _ o2 p1 (T.nm a) tr s2 ((HR.out.drew.below e1).below e2) (by rw [T.nm_size]; omega)).mono ?_); rintro e v3 ⟨rfl, rfl⟩; have C3 := HC2.out.alloc (.cells #[.pointer o2, .pointer p1, .int .i64 (T.pair (T.nm a) tr).size] 102); have x3 : (v2.alloc (.cells #[.pointer o2, .pointer p1, .int .i64 (T.pair (T.nm a) tr).size] 102)).cell? ⟨wr.heap.size, 0, none⟩ = some (.int .i64 1) := (C3.cell 0).trans rfl; have x3b : (v2.alloc (.cells #[.pointer o2, .pointer p1, .int .i64 (T.pair (T.nm a) tr).size] 102)).cell? ⟨wr.heap.size, 1, none⟩ = some (.int .i64 a) := (C3.cell 1).trans rfl; have HC3 := hide C3; clear C3) | (go_at_call 99; (with_reducible refine (num_of _ (a : Int) a rfl (by omega)).mono ?_); rintro e v2 ⟨o2, rfl, e2, s2⟩; have C2 := HC1.out.below e2 HC1.out.lt; have x2 : v2.cell? ⟨wr.heap.size, 0, none⟩ = some (.int .i64 1) := (C2.cell 0).trans rfl; have x2b : v2.cell? ⟨wr.heap.size, 1, none⟩ = some (.int .i64 a) := (C2.cell 1).trans rfl; have HC2 := hide C2; clear C2) | (go_at_call 99; (with_reducible refine (num_of _ (1 : Int) 1 rfl (by omega)).mono ?_); rintro e v1 ⟨o1, rfl, e1, s1⟩; have C1 := BQ.out.drew.below e1 BQ.out.lt; have x1 : v1.cell? ⟨wr.heap.size, 0, none⟩ = some (.int .i64 1) := (C1.cell 0).trans rfl; have x1b : v1.cell? ⟨wr.heap.size, 1, none⟩ = some (.int .i64 a) := (C1.cell 1).trans rfl; have HC1 := hide C1; clear C1))
        go_wp2
        go_roundw
        case rel =>
          have hw2 : Below w.heap.size w v2 := (FB.drew.trans (e1.mono (by simpa using FBs))).trans (e2.mono (by have := e1.size; simp at this; omega))
          have hs2 := hw2.size
          refine ⟨j, _, by omega, by simp, rfl, ?_, ((hw2.alloc hs2 _).alloc (by simp; omega) _).alloc (by simp; omega) _⟩
          have e : codeT (q.drop j) = T.pair (T.pair (T.nm 1) (.pair (T.nm a) tr)) (codeT (q.drop (j + 1))) := by rw [HCODE.out]; rw [HTR.out]; rfl
          rw [e]
          exact rep_sz (Rep.pair_new (rep_sz (Rep.pair_new (ty := 102) (w := v2.alloc (.cells #[.pointer o2, .pointer p1, .int .i64 (T.pair (T.nm a) tr).size] 102)) ((s1.below e2).alloc _) (Rep.pair_new s2 ((HR.out.drew.below e1).below e2))) (by simp)) ((((((RB.out.drew.below e1).below e2).alloc _).alloc _)))) (by simp)
        case measure => simp [intOf]
      | cons a b c =>
        simp only [wfI] at hwz
        simp only [I.chars] at hchars
        simp only [I.enc] at c0 c1 c2 c3 c4
        have hblk := Blk.new wr 41 #[.int .i64 2, .int .i64 a, .int .i64 (b), .int .i64 c, .string ByteArray.empty]
        have HBLK := hide hblk
        have d0 : (wr.alloc (.cells #[.int .i64 2, .int .i64 a, .int .i64 (b), .int .i64 c, .string ByteArray.empty] 41)).cell? ⟨wr.heap.size, 0, none⟩ = some (.int .i64 (2)) := by rw [hblk.cell]; rfl
        have d1 : (wr.alloc (.cells #[.int .i64 2, .int .i64 a, .int .i64 (b), .int .i64 c, .string ByteArray.empty] 41)).cell? ⟨wr.heap.size, 1, none⟩ = some (.int .i64 (a)) := by rw [hblk.cell]; rfl
        have d2 : (wr.alloc (.cells #[.int .i64 2, .int .i64 a, .int .i64 (b), .int .i64 c, .string ByteArray.empty] 41)).cell? ⟨wr.heap.size, 2, none⟩ = some (.int .i64 (b)) := by rw [hblk.cell]; rfl
        have d3 : (wr.alloc (.cells #[.int .i64 2, .int .i64 a, .int .i64 (b), .int .i64 c, .string ByteArray.empty] 41)).cell? ⟨wr.heap.size, 3, none⟩ = some (.int .i64 (c)) := by rw [hblk.cell]; rfl
        have d4 : (wr.alloc (.cells #[.int .i64 2, .int .i64 a, .int .i64 (b), .int .i64 c, .string ByteArray.empty] 41)).cell? ⟨wr.heap.size, 4, none⟩ = some (.string ByteArray.empty) := by rw [hblk.cell]; rfl
        clear hblk
        have FA : Below w.heap.size w (wr.alloc (.cells #[.int .i64 2, .int .i64 a, .int .i64 (b), .int .i64 c, .string ByteArray.empty] 41)) := hbel.alloc hsz _
        have SA : w.heap.size ≤ (wr.alloc (.cells #[.int .i64 2, .int .i64 a, .int .i64 (b), .int .i64 c, .string ByteArray.empty] 41)).heap.size := FA.size
        have RA := hide (hrep.alloc (.cells #[.int .i64 2, .int .i64 a, .int .i64 (b), .int .i64 c, .string ByteArray.empty] 41))
        go_wp2_with fail
        go_region_held3 (fun W => W.cell? ⟨wr.heap.size, 2, none⟩ = some (.int .i64 (b)) ∧ W.cell? ⟨wr.heap.size, 3, none⟩ = some (.int .i64 c)) (first | go_keep | (constructor <;> assumption)) (first | (go_at_call 25; (with_reducible refine (pair_any _ p1 p2 (T.nm b) (T.nm c) (r1.below bq2) r2 (by rw [T.nm_size, T.nm_size]; omega)).mono ?_); rintro e y3 ⟨rfl, rfl⟩; have B3 := HB2.out.alloc (.cells #[.pointer p1, .pointer p2, .int .i64 (T.pair (T.nm b) (T.nm c)).size] 102); have z6 : (y2.alloc (.cells #[.pointer p1, .pointer p2, .int .i64 (T.pair (T.nm b) (T.nm c)).size] 102)).cell? ⟨wr.heap.size, 2, none⟩ = some (.int .i64 (b)) := (B3.cell 2).trans rfl; have z7 : (y2.alloc (.cells #[.pointer p1, .pointer p2, .int .i64 (T.pair (T.nm b) (T.nm c)).size] 102)).cell? ⟨wr.heap.size, 3, none⟩ = some (.int .i64 c) := (B3.cell 3).trans rfl; have HB3 := hide B3; clear B3) | (go_at_call 99; (with_reducible refine (num_of _ (c : Int) c rfl (by omega)).mono ?_); rintro e y2 ⟨p2, rfl, bq2, r2⟩; have HB1b := HB1; have B2 := HB1.out.below bq2 HB1.out.lt; have z4 : y2.cell? ⟨wr.heap.size, 2, none⟩ = some (.int .i64 (b)) := (B2.cell 2).trans rfl; have z5 : y2.cell? ⟨wr.heap.size, 3, none⟩ = some (.int .i64 c) := (B2.cell 3).trans rfl; have HB2 := hide B2; clear B2) | (go_at_call 99; (with_reducible refine (num_of _ (b : Int) b rfl (by omega)).mono ?_); rintro e y1 ⟨p1, rfl, bq1, r1⟩; have B1 := HBLK.out.drew.below bq1 HBLK.out.lt; have z2 : y1.cell? ⟨wr.heap.size, 2, none⟩ = some (.int .i64 (b)) := (B1.cell 2).trans rfl; have z3 : y1.cell? ⟨wr.heap.size, 3, none⟩ = some (.int .i64 c) := (B1.cell 3).trans rfl; have HB1 := hide B1; clear B1))
        have q0 : (y2.alloc (.cells #[.pointer p1, .pointer p2, .int .i64 (T.pair (T.nm b) (T.nm c)).size] 102)).cell? ⟨wr.heap.size, 0, none⟩ = some (.int .i64 2) := by rw [HB3.out.cell]; rfl
        have q1 : (y2.alloc (.cells #[.pointer p1, .pointer p2, .int .i64 (T.pair (T.nm b) (T.nm c)).size] 102)).cell? ⟨wr.heap.size, 1, none⟩ = some (.int .i64 a) := by rw [HB3.out.cell]; rfl
        have BQ := HB3
        have r3 := Rep.pair_new (r1.below bq2) r2
        have bb2 : Below wr.heap.size wr y2 := ((((Below.refl wr.heap.size wr).alloc (Nat.le_refl _) _).drew).trans (bq1.mono (by simp))).trans (bq2.mono (by have := bq1.size; simp at this ⊢; omega))
        have bb3 := bb2.alloc bb2.size (.cells #[.pointer p1, .pointer p2, .int .i64 (T.pair (T.nm b) (T.nm c)).size] 102)
        have RB := hide (HREP.out.below bb3)
        have FB := hbel.trans (bb3.mono hsz)
        clear z2 z3 z4 z5 z6 z7 HB1 HB1b HB2 bq1 bq2 r1 r2 bb2
        obtain ⟨W1, hW1⟩ : ∃ z, z = (y2.alloc (.cells #[.pointer p1, .pointer p2, .int .i64 (T.pair (T.nm b) (T.nm c)).size] 102)) := ⟨_, rfl⟩
        rw [← hW1] at q0 q1 BQ RB FB r3 ⊢
        clear hW1
        obtain ⟨tr, htr⟩ : ∃ z, z = (T.pair (T.nm b) (T.nm c)) := ⟨_, rfl⟩
        rw [← htr] at r3
        have htrs : tr.size ≤ 10000000 := by rw [htr]; simp only [T.size, T.nm_size]; omega
        have HTR := hide htr
        have HR := hide r3
        clear htr r3
        have FBs := FB.size
        go_wp2_with fail
        go_region_held3 (fun W => W.cell? ⟨wr.heap.size, 0, none⟩ = some (.int .i64 2) ∧ W.cell? ⟨wr.heap.size, 1, none⟩ = some (.int .i64 a)) (first | go_keep | (constructor <;> assumption)) (first | (go_at_call 25; (with_reducible refine (pair_any _ (some ⟨v2.heap.size + 1, 0, none⟩) pc (T.pair (T.nm 2) (.pair (T.nm a) tr)) (codeT (q.drop (j + 1))) (rep_sz (Rep.pair_new (ty := 102) (w := v2.alloc (.cells #[.pointer o2, .pointer (some ⟨y2.heap.size, 0, none⟩), .int .i64 (T.pair (T.nm a) tr).size] 102)) ((s1.below e2).alloc _) (Rep.pair_new s2 ((HR.out.drew.below e1).below e2))) (by simp)) ((((((RB.out.drew.below e1).below e2).alloc _).alloc _))) (by simp only [T.size, T.nm_size]; omega)).mono ?_); rintro e v5 ⟨rfl, rfl⟩; have C5 := HC4.out.alloc (.cells #[.pointer (some ⟨v2.heap.size + 1, 0, none⟩), .pointer pc, .int .i64 (T.pair (T.pair (T.nm 2) (.pair (T.nm a) tr)) (codeT (q.drop (j + 1)))).size] 102); have x5 : (((v2.alloc (.cells #[.pointer o2, .pointer (some ⟨y2.heap.size, 0, none⟩), .int .i64 (T.pair (T.nm a) tr).size] 102)).alloc (.cells #[.pointer o1, .pointer (some ⟨v2.heap.size, 0, none⟩), .int .i64 (T.pair (T.nm 2) (.pair (T.nm a) tr)).size] 102)).alloc (.cells #[.pointer (some ⟨v2.heap.size + 1, 0, none⟩), .pointer pc, .int .i64 (T.pair (T.pair (T.nm 2) (.pair (T.nm a) tr)) (codeT (q.drop (j + 1)))).size] 102)).cell? ⟨wr.heap.size, 0, none⟩ = some (.int .i64 2) := (C5.cell 0).trans rfl; have x5b : (((v2.alloc (.cells #[.pointer o2, .pointer (some ⟨y2.heap.size, 0, none⟩), .int .i64 (T.pair (T.nm a) tr).size] 102)).alloc (.cells #[.pointer o1, .pointer (some ⟨v2.heap.size, 0, none⟩), .int .i64 (T.pair (T.nm 2) (.pair (T.nm a) tr)).size] 102)).alloc (.cells #[.pointer (some ⟨v2.heap.size + 1, 0, none⟩), .pointer pc, .int .i64 (T.pair (T.pair (T.nm 2) (.pair (T.nm a) tr)) (codeT (q.drop (j + 1)))).size] 102)).cell? ⟨wr.heap.size, 1, none⟩ = some (.int .i64 a) := (C5.cell 1).trans rfl; have HC5 := hide C5; clear C5) | (go_at_call 25; (with_reducible refine (pair_any _ o1 (some ⟨v2.heap.size, 0, none⟩) (T.nm 2) (.pair (T.nm a) tr) ((s1.below e2).alloc _) (Rep.pair_new s2 ((HR.out.drew.below e1).below e2)) (by simp only [T.size, T.nm_size]; omega)).mono ?_); rintro e v4 ⟨rfl, rfl⟩; have C4 := HC3.out.alloc (.cells #[.pointer o1, .pointer (some ⟨v2.heap.size, 0, none⟩), .int .i64 (T.pair (T.nm 2) (.pair (T.nm a) tr)).size] 102); have x4 : ((v2.alloc (.cells #[.pointer o2, .pointer (some ⟨y2.heap.size, 0, none⟩), .int .i64 (T.pair (T.nm a) tr).size] 102)).alloc (.cells #[.pointer o1, .pointer (some ⟨v2.heap.size, 0, none⟩), .int .i64 (T.pair (T.nm 2) (.pair (T.nm a) tr)).size] 102)).cell? ⟨wr.heap.size, 0, none⟩ = some (.int .i64 2) := (C4.cell 0).trans rfl; have x4b : ((v2.alloc (.cells #[.pointer o2, .pointer (some ⟨y2.heap.size, 0, none⟩), .int .i64 (T.pair (T.nm a) tr).size] 102)).alloc (.cells #[.pointer o1, .pointer (some ⟨v2.heap.size, 0, none⟩), .int .i64 (T.pair (T.nm 2) (.pair (T.nm a) tr)).size] 102)).cell? ⟨wr.heap.size, 1, none⟩ = some (.int .i64 a) := (C4.cell 1).trans rfl; have HC4 := hide C4; clear C4) | (go_at_call 25; (with_reducible refine (pair_any _ o2 (some ⟨y2.heap.size, 0, none⟩) (T.nm a) tr s2 ((HR.out.drew.below e1).below e2) (by rw [T.nm_size]; omega)).mono ?_); rintro e v3 ⟨rfl, rfl⟩; have C3 := HC2.out.alloc (.cells #[.pointer o2, .pointer (some ⟨y2.heap.size, 0, none⟩), .int .i64 (T.pair (T.nm a) tr).size] 102); have x3 : (v2.alloc (.cells #[.pointer o2, .pointer (some ⟨y2.heap.size, 0, none⟩), .int .i64 (T.pair (T.nm a) tr).size] 102)).cell? ⟨wr.heap.size, 0, none⟩ = some (.int .i64 2) := (C3.cell 0).trans rfl; have x3b : (v2.alloc (.cells #[.pointer o2, .pointer (some ⟨y2.heap.size, 0, none⟩), .int .i64 (T.pair (T.nm a) tr).size] 102)).cell? ⟨wr.heap.size, 1, none⟩ = some (.int .i64 a) := (C3.cell 1).trans rfl; have HC3 := hide C3; clear C3) | (go_at_call 99; (with_reducible refine (num_of _ (a : Int) a rfl (by omega)).mono ?_); rintro e v2 ⟨o2, rfl, e2, s2⟩; have C2 := HC1.out.below e2 HC1.out.lt; have x2 : v2.cell? ⟨wr.heap.size, 0, none⟩ = some (.int .i64 2) := (C2.cell 0).trans rfl; have x2b : v2.cell? ⟨wr.heap.size, 1, none⟩ = some (.int .i64 a) := (C2.cell 1).trans rfl; have HC2 := hide C2; clear C2) | (go_at_call 99; (with_reducible refine (num_of _ (2 : Int) 2 rfl (by omega)).mono ?_); rintro e v1 ⟨o1, rfl, e1, s1⟩; have C1 := BQ.out.drew.below e1 BQ.out.lt; have x1 : v1.cell? ⟨wr.heap.size, 0, none⟩ = some (.int .i64 2) := (C1.cell 0).trans rfl; have x1b : v1.cell? ⟨wr.heap.size, 1, none⟩ = some (.int .i64 a) := (C1.cell 1).trans rfl; have HC1 := hide C1; clear C1))
        go_wp2
        go_roundw
        case rel =>
          have hw2 : Below w.heap.size w v2 := (FB.drew.trans (e1.mono (by simpa using FBs))).trans (e2.mono (by have := e1.size; simp at this; omega))
          have hs2 := hw2.size
          refine ⟨j, _, by omega, by simp, rfl, ?_, ((hw2.alloc hs2 _).alloc (by simp; omega) _).alloc (by simp; omega) _⟩
          have e : codeT (q.drop j) = T.pair (T.pair (T.nm 2) (.pair (T.nm a) tr)) (codeT (q.drop (j + 1))) := by rw [HCODE.out]; rw [HTR.out]; rfl
          rw [e]
          exact rep_sz (Rep.pair_new (rep_sz (Rep.pair_new (ty := 102) (w := v2.alloc (.cells #[.pointer o2, .pointer (some ⟨y2.heap.size, 0, none⟩), .int .i64 (T.pair (T.nm a) tr).size] 102)) ((s1.below e2).alloc _) (Rep.pair_new s2 ((HR.out.drew.below e1).below e2))) (by simp)) ((((((RB.out.drew.below e1).below e2).alloc _).alloc _)))) (by simp)
        case measure => simp [intOf]
      | head a b =>
        simp only [wfI] at hwz
        simp only [I.chars] at hchars
        simp only [I.enc] at c0 c1 c2 c3 c4
        have hblk := Blk.new wr 41 #[.int .i64 3, .int .i64 a, .int .i64 (b), .int .i64 0, .string ByteArray.empty]
        have HBLK := hide hblk
        have d0 : (wr.alloc (.cells #[.int .i64 3, .int .i64 a, .int .i64 (b), .int .i64 0, .string ByteArray.empty] 41)).cell? ⟨wr.heap.size, 0, none⟩ = some (.int .i64 (3)) := by rw [hblk.cell]; rfl
        have d1 : (wr.alloc (.cells #[.int .i64 3, .int .i64 a, .int .i64 (b), .int .i64 0, .string ByteArray.empty] 41)).cell? ⟨wr.heap.size, 1, none⟩ = some (.int .i64 (a)) := by rw [hblk.cell]; rfl
        have d2 : (wr.alloc (.cells #[.int .i64 3, .int .i64 a, .int .i64 (b), .int .i64 0, .string ByteArray.empty] 41)).cell? ⟨wr.heap.size, 2, none⟩ = some (.int .i64 (b)) := by rw [hblk.cell]; rfl
        have d3 : (wr.alloc (.cells #[.int .i64 3, .int .i64 a, .int .i64 (b), .int .i64 0, .string ByteArray.empty] 41)).cell? ⟨wr.heap.size, 3, none⟩ = some (.int .i64 (0)) := by rw [hblk.cell]; rfl
        have d4 : (wr.alloc (.cells #[.int .i64 3, .int .i64 a, .int .i64 (b), .int .i64 0, .string ByteArray.empty] 41)).cell? ⟨wr.heap.size, 4, none⟩ = some (.string ByteArray.empty) := by rw [hblk.cell]; rfl
        clear hblk
        have FA : Below w.heap.size w (wr.alloc (.cells #[.int .i64 3, .int .i64 a, .int .i64 (b), .int .i64 0, .string ByteArray.empty] 41)) := hbel.alloc hsz _
        have SA : w.heap.size ≤ (wr.alloc (.cells #[.int .i64 3, .int .i64 a, .int .i64 (b), .int .i64 0, .string ByteArray.empty] 41)).heap.size := FA.size
        have RA := hide (hrep.alloc (.cells #[.int .i64 3, .int .i64 a, .int .i64 (b), .int .i64 0, .string ByteArray.empty] 41))
        go_wp2_with fail
        refine (num_of _ (b : Int) b rfl (by omega)).mono ?_; rintro e w1 ⟨p1, rfl, bq1, r1⟩
        have q0 : w1.cell? ⟨wr.heap.size, 0, none⟩ = some (.int .i64 3) := by rw [(HBLK.out.below bq1 HBLK.out.lt).cell]; rfl
        have q1 : w1.cell? ⟨wr.heap.size, 1, none⟩ = some (.int .i64 a) := by rw [(HBLK.out.below bq1 HBLK.out.lt).cell]; rfl
        have BQ := hide (HBLK.out.below bq1 HBLK.out.lt)
        have RB := hide (RA.out.below bq1)
        have FB := FA.trans (bq1.mono SA)
        obtain ⟨W1, hW1⟩ : ∃ z, z = w1 := ⟨_, rfl⟩
        rw [← hW1] at q0 q1 BQ RB FB r1 ⊢
        clear hW1
        obtain ⟨tr, htr⟩ : ∃ z, z = (T.nm b) := ⟨_, rfl⟩
        rw [← htr] at r1
        have htrs : tr.size ≤ 10000000 := by rw [htr]; rw [T.nm_size]; omega
        have HTR := hide htr
        have HR := hide r1
        clear htr r1
        have FBs := FB.size
        go_wp2_with fail
        go_region_held3 (fun W => W.cell? ⟨wr.heap.size, 0, none⟩ = some (.int .i64 3) ∧ W.cell? ⟨wr.heap.size, 1, none⟩ = some (.int .i64 a)) (first | go_keep | (constructor <;> assumption)) (first | (go_at_call 25; (with_reducible refine (pair_any _ (some ⟨v2.heap.size + 1, 0, none⟩) pc (T.pair (T.nm 3) (.pair (T.nm a) tr)) (codeT (q.drop (j + 1))) (rep_sz (Rep.pair_new (ty := 102) (w := v2.alloc (.cells #[.pointer o2, .pointer p1, .int .i64 (T.pair (T.nm a) tr).size] 102)) ((s1.below e2).alloc _) (Rep.pair_new s2 ((HR.out.drew.below e1).below e2))) (by simp)) ((((((RB.out.drew.below e1).below e2).alloc _).alloc _))) (by simp only [T.size, T.nm_size]; omega)).mono ?_); rintro e v5 ⟨rfl, rfl⟩; have C5 := HC4.out.alloc (.cells #[.pointer (some ⟨v2.heap.size + 1, 0, none⟩), .pointer pc, .int .i64 (T.pair (T.pair (T.nm 3) (.pair (T.nm a) tr)) (codeT (q.drop (j + 1)))).size] 102); have x5 : (((v2.alloc (.cells #[.pointer o2, .pointer p1, .int .i64 (T.pair (T.nm a) tr).size] 102)).alloc (.cells #[.pointer o1, .pointer (some ⟨v2.heap.size, 0, none⟩), .int .i64 (T.pair (T.nm 3) (.pair (T.nm a) tr)).size] 102)).alloc (.cells #[.pointer (some ⟨v2.heap.size + 1, 0, none⟩), .pointer pc, .int .i64 (T.pair (T.pair (T.nm 3) (.pair (T.nm a) tr)) (codeT (q.drop (j + 1)))).size] 102)).cell? ⟨wr.heap.size, 0, none⟩ = some (.int .i64 3) := (C5.cell 0).trans rfl; have x5b : (((v2.alloc (.cells #[.pointer o2, .pointer p1, .int .i64 (T.pair (T.nm a) tr).size] 102)).alloc (.cells #[.pointer o1, .pointer (some ⟨v2.heap.size, 0, none⟩), .int .i64 (T.pair (T.nm 3) (.pair (T.nm a) tr)).size] 102)).alloc (.cells #[.pointer (some ⟨v2.heap.size + 1, 0, none⟩), .pointer pc, .int .i64 (T.pair (T.pair (T.nm 3) (.pair (T.nm a) tr)) (codeT (q.drop (j + 1)))).size] 102)).cell? ⟨wr.heap.size, 1, none⟩ = some (.int .i64 a) := (C5.cell 1).trans rfl; have HC5 := hide C5; clear C5) | (go_at_call 25; (with_reducible refine (pair_any _ o1 (some ⟨v2.heap.size, 0, none⟩) (T.nm 3) (.pair (T.nm a) tr) ((s1.below e2).alloc _) (Rep.pair_new s2 ((HR.out.drew.below e1).below e2)) (by simp only [T.size, T.nm_size]; omega)).mono ?_); rintro e v4 ⟨rfl, rfl⟩; have C4 := HC3.out.alloc (.cells #[.pointer o1, .pointer (some ⟨v2.heap.size, 0, none⟩), .int .i64 (T.pair (T.nm 3) (.pair (T.nm a) tr)).size] 102); have x4 : ((v2.alloc (.cells #[.pointer o2, .pointer p1, .int .i64 (T.pair (T.nm a) tr).size] 102)).alloc (.cells #[.pointer o1, .pointer (some ⟨v2.heap.size, 0, none⟩), .int .i64 (T.pair (T.nm 3) (.pair (T.nm a) tr)).size] 102)).cell? ⟨wr.heap.size, 0, none⟩ = some (.int .i64 3) := (C4.cell 0).trans rfl; have x4b : ((v2.alloc (.cells #[.pointer o2, .pointer p1, .int .i64 (T.pair (T.nm a) tr).size] 102)).alloc (.cells #[.pointer o1, .pointer (some ⟨v2.heap.size, 0, none⟩), .int .i64 (T.pair (T.nm 3) (.pair (T.nm a) tr)).size] 102)).cell? ⟨wr.heap.size, 1, none⟩ = some (.int .i64 a) := (C4.cell 1).trans rfl; have HC4 := hide C4; clear C4) | (go_at_call 25; (with_reducible refine (pair_any _ o2 p1 (T.nm a) tr s2 ((HR.out.drew.below e1).below e2) (by rw [T.nm_size]; omega)).mono ?_); rintro e v3 ⟨rfl, rfl⟩; have C3 := HC2.out.alloc (.cells #[.pointer o2, .pointer p1, .int .i64 (T.pair (T.nm a) tr).size] 102); have x3 : (v2.alloc (.cells #[.pointer o2, .pointer p1, .int .i64 (T.pair (T.nm a) tr).size] 102)).cell? ⟨wr.heap.size, 0, none⟩ = some (.int .i64 3) := (C3.cell 0).trans rfl; have x3b : (v2.alloc (.cells #[.pointer o2, .pointer p1, .int .i64 (T.pair (T.nm a) tr).size] 102)).cell? ⟨wr.heap.size, 1, none⟩ = some (.int .i64 a) := (C3.cell 1).trans rfl; have HC3 := hide C3; clear C3) | (go_at_call 99; (with_reducible refine (num_of _ (a : Int) a rfl (by omega)).mono ?_); rintro e v2 ⟨o2, rfl, e2, s2⟩; have C2 := HC1.out.below e2 HC1.out.lt; have x2 : v2.cell? ⟨wr.heap.size, 0, none⟩ = some (.int .i64 3) := (C2.cell 0).trans rfl; have x2b : v2.cell? ⟨wr.heap.size, 1, none⟩ = some (.int .i64 a) := (C2.cell 1).trans rfl; have HC2 := hide C2; clear C2) | (go_at_call 99; (with_reducible refine (num_of _ (3 : Int) 3 rfl (by omega)).mono ?_); rintro e v1 ⟨o1, rfl, e1, s1⟩; have C1 := BQ.out.drew.below e1 BQ.out.lt; have x1 : v1.cell? ⟨wr.heap.size, 0, none⟩ = some (.int .i64 3) := (C1.cell 0).trans rfl; have x1b : v1.cell? ⟨wr.heap.size, 1, none⟩ = some (.int .i64 a) := (C1.cell 1).trans rfl; have HC1 := hide C1; clear C1))
        go_wp2
        go_roundw
        case rel =>
          have hw2 : Below w.heap.size w v2 := (FB.drew.trans (e1.mono (by simpa using FBs))).trans (e2.mono (by have := e1.size; simp at this; omega))
          have hs2 := hw2.size
          refine ⟨j, _, by omega, by simp, rfl, ?_, ((hw2.alloc hs2 _).alloc (by simp; omega) _).alloc (by simp; omega) _⟩
          have e : codeT (q.drop j) = T.pair (T.pair (T.nm 3) (.pair (T.nm a) tr)) (codeT (q.drop (j + 1))) := by rw [HCODE.out]; rw [HTR.out]; rfl
          rw [e]
          exact rep_sz (Rep.pair_new (rep_sz (Rep.pair_new (ty := 102) (w := v2.alloc (.cells #[.pointer o2, .pointer p1, .int .i64 (T.pair (T.nm a) tr).size] 102)) ((s1.below e2).alloc _) (Rep.pair_new s2 ((HR.out.drew.below e1).below e2))) (by simp)) ((((((RB.out.drew.below e1).below e2).alloc _).alloc _)))) (by simp)
        case measure => simp [intOf]
      | tail a b =>
        simp only [wfI] at hwz
        simp only [I.chars] at hchars
        simp only [I.enc] at c0 c1 c2 c3 c4
        have hblk := Blk.new wr 41 #[.int .i64 4, .int .i64 a, .int .i64 (b), .int .i64 0, .string ByteArray.empty]
        have HBLK := hide hblk
        have d0 : (wr.alloc (.cells #[.int .i64 4, .int .i64 a, .int .i64 (b), .int .i64 0, .string ByteArray.empty] 41)).cell? ⟨wr.heap.size, 0, none⟩ = some (.int .i64 (4)) := by rw [hblk.cell]; rfl
        have d1 : (wr.alloc (.cells #[.int .i64 4, .int .i64 a, .int .i64 (b), .int .i64 0, .string ByteArray.empty] 41)).cell? ⟨wr.heap.size, 1, none⟩ = some (.int .i64 (a)) := by rw [hblk.cell]; rfl
        have d2 : (wr.alloc (.cells #[.int .i64 4, .int .i64 a, .int .i64 (b), .int .i64 0, .string ByteArray.empty] 41)).cell? ⟨wr.heap.size, 2, none⟩ = some (.int .i64 (b)) := by rw [hblk.cell]; rfl
        have d3 : (wr.alloc (.cells #[.int .i64 4, .int .i64 a, .int .i64 (b), .int .i64 0, .string ByteArray.empty] 41)).cell? ⟨wr.heap.size, 3, none⟩ = some (.int .i64 (0)) := by rw [hblk.cell]; rfl
        have d4 : (wr.alloc (.cells #[.int .i64 4, .int .i64 a, .int .i64 (b), .int .i64 0, .string ByteArray.empty] 41)).cell? ⟨wr.heap.size, 4, none⟩ = some (.string ByteArray.empty) := by rw [hblk.cell]; rfl
        clear hblk
        have FA : Below w.heap.size w (wr.alloc (.cells #[.int .i64 4, .int .i64 a, .int .i64 (b), .int .i64 0, .string ByteArray.empty] 41)) := hbel.alloc hsz _
        have SA : w.heap.size ≤ (wr.alloc (.cells #[.int .i64 4, .int .i64 a, .int .i64 (b), .int .i64 0, .string ByteArray.empty] 41)).heap.size := FA.size
        have RA := hide (hrep.alloc (.cells #[.int .i64 4, .int .i64 a, .int .i64 (b), .int .i64 0, .string ByteArray.empty] 41))
        go_wp2_with fail
        refine (num_of _ (b : Int) b rfl (by omega)).mono ?_; rintro e w1 ⟨p1, rfl, bq1, r1⟩
        have q0 : w1.cell? ⟨wr.heap.size, 0, none⟩ = some (.int .i64 4) := by rw [(HBLK.out.below bq1 HBLK.out.lt).cell]; rfl
        have q1 : w1.cell? ⟨wr.heap.size, 1, none⟩ = some (.int .i64 a) := by rw [(HBLK.out.below bq1 HBLK.out.lt).cell]; rfl
        have BQ := hide (HBLK.out.below bq1 HBLK.out.lt)
        have RB := hide (RA.out.below bq1)
        have FB := FA.trans (bq1.mono SA)
        obtain ⟨W1, hW1⟩ : ∃ z, z = w1 := ⟨_, rfl⟩
        rw [← hW1] at q0 q1 BQ RB FB r1 ⊢
        clear hW1
        obtain ⟨tr, htr⟩ : ∃ z, z = (T.nm b) := ⟨_, rfl⟩
        rw [← htr] at r1
        have htrs : tr.size ≤ 10000000 := by rw [htr]; rw [T.nm_size]; omega
        have HTR := hide htr
        have HR := hide r1
        clear htr r1
        have FBs := FB.size
        go_wp2_with fail
        go_region_held3 (fun W => W.cell? ⟨wr.heap.size, 0, none⟩ = some (.int .i64 4) ∧ W.cell? ⟨wr.heap.size, 1, none⟩ = some (.int .i64 a)) (first | go_keep | (constructor <;> assumption)) (first | (go_at_call 25; (with_reducible refine (pair_any _ (some ⟨v2.heap.size + 1, 0, none⟩) pc (T.pair (T.nm 4) (.pair (T.nm a) tr)) (codeT (q.drop (j + 1))) (rep_sz (Rep.pair_new (ty := 102) (w := v2.alloc (.cells #[.pointer o2, .pointer p1, .int .i64 (T.pair (T.nm a) tr).size] 102)) ((s1.below e2).alloc _) (Rep.pair_new s2 ((HR.out.drew.below e1).below e2))) (by simp)) ((((((RB.out.drew.below e1).below e2).alloc _).alloc _))) (by simp only [T.size, T.nm_size]; omega)).mono ?_); rintro e v5 ⟨rfl, rfl⟩; have C5 := HC4.out.alloc (.cells #[.pointer (some ⟨v2.heap.size + 1, 0, none⟩), .pointer pc, .int .i64 (T.pair (T.pair (T.nm 4) (.pair (T.nm a) tr)) (codeT (q.drop (j + 1)))).size] 102); have x5 : (((v2.alloc (.cells #[.pointer o2, .pointer p1, .int .i64 (T.pair (T.nm a) tr).size] 102)).alloc (.cells #[.pointer o1, .pointer (some ⟨v2.heap.size, 0, none⟩), .int .i64 (T.pair (T.nm 4) (.pair (T.nm a) tr)).size] 102)).alloc (.cells #[.pointer (some ⟨v2.heap.size + 1, 0, none⟩), .pointer pc, .int .i64 (T.pair (T.pair (T.nm 4) (.pair (T.nm a) tr)) (codeT (q.drop (j + 1)))).size] 102)).cell? ⟨wr.heap.size, 0, none⟩ = some (.int .i64 4) := (C5.cell 0).trans rfl; have x5b : (((v2.alloc (.cells #[.pointer o2, .pointer p1, .int .i64 (T.pair (T.nm a) tr).size] 102)).alloc (.cells #[.pointer o1, .pointer (some ⟨v2.heap.size, 0, none⟩), .int .i64 (T.pair (T.nm 4) (.pair (T.nm a) tr)).size] 102)).alloc (.cells #[.pointer (some ⟨v2.heap.size + 1, 0, none⟩), .pointer pc, .int .i64 (T.pair (T.pair (T.nm 4) (.pair (T.nm a) tr)) (codeT (q.drop (j + 1)))).size] 102)).cell? ⟨wr.heap.size, 1, none⟩ = some (.int .i64 a) := (C5.cell 1).trans rfl; have HC5 := hide C5; clear C5) | (go_at_call 25; (with_reducible refine (pair_any _ o1 (some ⟨v2.heap.size, 0, none⟩) (T.nm 4) (.pair (T.nm a) tr) ((s1.below e2).alloc _) (Rep.pair_new s2 ((HR.out.drew.below e1).below e2)) (by simp only [T.size, T.nm_size]; omega)).mono ?_); rintro e v4 ⟨rfl, rfl⟩; have C4 := HC3.out.alloc (.cells #[.pointer o1, .pointer (some ⟨v2.heap.size, 0, none⟩), .int .i64 (T.pair (T.nm 4) (.pair (T.nm a) tr)).size] 102); have x4 : ((v2.alloc (.cells #[.pointer o2, .pointer p1, .int .i64 (T.pair (T.nm a) tr).size] 102)).alloc (.cells #[.pointer o1, .pointer (some ⟨v2.heap.size, 0, none⟩), .int .i64 (T.pair (T.nm 4) (.pair (T.nm a) tr)).size] 102)).cell? ⟨wr.heap.size, 0, none⟩ = some (.int .i64 4) := (C4.cell 0).trans rfl; have x4b : ((v2.alloc (.cells #[.pointer o2, .pointer p1, .int .i64 (T.pair (T.nm a) tr).size] 102)).alloc (.cells #[.pointer o1, .pointer (some ⟨v2.heap.size, 0, none⟩), .int .i64 (T.pair (T.nm 4) (.pair (T.nm a) tr)).size] 102)).cell? ⟨wr.heap.size, 1, none⟩ = some (.int .i64 a) := (C4.cell 1).trans rfl; have HC4 := hide C4; clear C4) | (go_at_call 25; (with_reducible refine (pair_any _ o2 p1 (T.nm a) tr s2 ((HR.out.drew.below e1).below e2) (by rw [T.nm_size]; omega)).mono ?_); rintro e v3 ⟨rfl, rfl⟩; have C3 := HC2.out.alloc (.cells #[.pointer o2, .pointer p1, .int .i64 (T.pair (T.nm a) tr).size] 102); have x3 : (v2.alloc (.cells #[.pointer o2, .pointer p1, .int .i64 (T.pair (T.nm a) tr).size] 102)).cell? ⟨wr.heap.size, 0, none⟩ = some (.int .i64 4) := (C3.cell 0).trans rfl; have x3b : (v2.alloc (.cells #[.pointer o2, .pointer p1, .int .i64 (T.pair (T.nm a) tr).size] 102)).cell? ⟨wr.heap.size, 1, none⟩ = some (.int .i64 a) := (C3.cell 1).trans rfl; have HC3 := hide C3; clear C3) | (go_at_call 99; (with_reducible refine (num_of _ (a : Int) a rfl (by omega)).mono ?_); rintro e v2 ⟨o2, rfl, e2, s2⟩; have C2 := HC1.out.below e2 HC1.out.lt; have x2 : v2.cell? ⟨wr.heap.size, 0, none⟩ = some (.int .i64 4) := (C2.cell 0).trans rfl; have x2b : v2.cell? ⟨wr.heap.size, 1, none⟩ = some (.int .i64 a) := (C2.cell 1).trans rfl; have HC2 := hide C2; clear C2) | (go_at_call 99; (with_reducible refine (num_of _ (4 : Int) 4 rfl (by omega)).mono ?_); rintro e v1 ⟨o1, rfl, e1, s1⟩; have C1 := BQ.out.drew.below e1 BQ.out.lt; have x1 : v1.cell? ⟨wr.heap.size, 0, none⟩ = some (.int .i64 4) := (C1.cell 0).trans rfl; have x1b : v1.cell? ⟨wr.heap.size, 1, none⟩ = some (.int .i64 a) := (C1.cell 1).trans rfl; have HC1 := hide C1; clear C1))
        go_wp2
        go_roundw
        case rel =>
          have hw2 : Below w.heap.size w v2 := (FB.drew.trans (e1.mono (by simpa using FBs))).trans (e2.mono (by have := e1.size; simp at this; omega))
          have hs2 := hw2.size
          refine ⟨j, _, by omega, by simp, rfl, ?_, ((hw2.alloc hs2 _).alloc (by simp; omega) _).alloc (by simp; omega) _⟩
          have e : codeT (q.drop j) = T.pair (T.pair (T.nm 4) (.pair (T.nm a) tr)) (codeT (q.drop (j + 1))) := by rw [HCODE.out]; rw [HTR.out]; rfl
          rw [e]
          exact rep_sz (Rep.pair_new (rep_sz (Rep.pair_new (ty := 102) (w := v2.alloc (.cells #[.pointer o2, .pointer p1, .int .i64 (T.pair (T.nm a) tr).size] 102)) ((s1.below e2).alloc _) (Rep.pair_new s2 ((HR.out.drew.below e1).below e2))) (by simp)) ((((((RB.out.drew.below e1).below e2).alloc _).alloc _)))) (by simp)
        case measure => simp [intOf]
      | jump a d =>
        simp only [wfI] at hwz
        simp only [I.chars] at hchars
        simp only [I.enc] at c0 c1 c2 c3 c4
        by_cases hd : 0 ≤ d
        · obtain ⟨d, rfl⟩ : ∃ k : Nat, d = k := ⟨d.toNat, by omega⟩
          have hd1 : ((d : Int) < 0) = False := by simp
          have hdb : d ≤ 100000 := by omega
          have hblk := Blk.new wr 41 #[.int .i64 5, .int .i64 a, .int .i64 (d), .int .i64 0, .string ByteArray.empty]
          have HBLK := hide hblk
          have d0 : (wr.alloc (.cells #[.int .i64 5, .int .i64 a, .int .i64 (d), .int .i64 0, .string ByteArray.empty] 41)).cell? ⟨wr.heap.size, 0, none⟩ = some (.int .i64 (5)) := by rw [hblk.cell]; rfl
          have d1 : (wr.alloc (.cells #[.int .i64 5, .int .i64 a, .int .i64 (d), .int .i64 0, .string ByteArray.empty] 41)).cell? ⟨wr.heap.size, 1, none⟩ = some (.int .i64 (a)) := by rw [hblk.cell]; rfl
          have d2 : (wr.alloc (.cells #[.int .i64 5, .int .i64 a, .int .i64 (d), .int .i64 0, .string ByteArray.empty] 41)).cell? ⟨wr.heap.size, 2, none⟩ = some (.int .i64 (d)) := by rw [hblk.cell]; rfl
          have d3 : (wr.alloc (.cells #[.int .i64 5, .int .i64 a, .int .i64 (d), .int .i64 0, .string ByteArray.empty] 41)).cell? ⟨wr.heap.size, 3, none⟩ = some (.int .i64 (0)) := by rw [hblk.cell]; rfl
          have d4 : (wr.alloc (.cells #[.int .i64 5, .int .i64 a, .int .i64 (d), .int .i64 0, .string ByteArray.empty] 41)).cell? ⟨wr.heap.size, 4, none⟩ = some (.string ByteArray.empty) := by rw [hblk.cell]; rfl
          clear hblk
          have FA : Below w.heap.size w (wr.alloc (.cells #[.int .i64 5, .int .i64 a, .int .i64 (d), .int .i64 0, .string ByteArray.empty] 41)) := hbel.alloc hsz _
          have SA : w.heap.size ≤ (wr.alloc (.cells #[.int .i64 5, .int .i64 a, .int .i64 (d), .int .i64 0, .string ByteArray.empty] 41)).heap.size := FA.size
          have RA := hide (hrep.alloc (.cells #[.int .i64 5, .int .i64 a, .int .i64 (d), .int .i64 0, .string ByteArray.empty] 41))
          go_wp2_with fail
          refine (num_of _ (d : Int) d rfl (by omega)).mono ?_; rintro e w1 ⟨p1, rfl, bq1, r1⟩
          have B1 := HBLK.out.below bq1 HBLK.out.lt
          have dd : w1.cell? ⟨wr.heap.size, 2, none⟩ = some (.int .i64 d) := (B1.cell 2).trans rfl
          go_wp2_with fail
          refine (pair_any w1 none p1 .nil (T.nm d) rfl r1 (by rw [T.nm_size]; simp only [T.size]; omega)).mono ?_; rintro e w2 ⟨rfl, rfl⟩
          have B2 := B1.alloc (.cells #[.pointer none, .pointer p1, .int .i64 (T.pair .nil (T.nm d)).size] 102)
          have q0 : (w1.alloc (.cells #[.pointer none, .pointer p1, .int .i64 (T.pair .nil (T.nm d)).size] 102)).cell? ⟨wr.heap.size, 0, none⟩ = some (.int .i64 5) := (B2.cell 0).trans rfl
          have q1 : (w1.alloc (.cells #[.pointer none, .pointer p1, .int .i64 (T.pair .nil (T.nm d)).size] 102)).cell? ⟨wr.heap.size, 1, none⟩ = some (.int .i64 a) := (B2.cell 1).trans rfl
          have q2 : (w1.alloc (.cells #[.pointer none, .pointer p1, .int .i64 (T.pair .nil (T.nm d)).size] 102)).cell? ⟨wr.heap.size, 2, none⟩ = some (.int .i64 (d)) := (B2.cell 2).trans rfl
          have BQ := hide B2
          have r3 := Rep.pair_new (ty := 102) (a := .nil) (pa := none) rfl r1
          have bb2 : Below wr.heap.size wr w1 := (((Below.refl wr.heap.size wr).alloc (Nat.le_refl _) _)).trans (bq1.mono (by simp))
          have bb3 := bb2.alloc bb2.size (.cells #[.pointer none, .pointer p1, .int .i64 (T.pair .nil (T.nm d)).size] 102)
          have RB := hide (HREP.out.below bb3)
          have FB := hbel.trans (bb3.mono hsz)
          clear B1 B2 dd bq1 bb2 bb3 r1
          obtain ⟨W1, hW1⟩ : ∃ z, z = (w1.alloc (.cells #[.pointer none, .pointer p1, .int .i64 (T.pair .nil (T.nm d)).size] 102)) := ⟨_, rfl⟩
          rw [← hW1] at q0 q1 BQ RB FB r3 q2 ⊢
          clear hW1
          obtain ⟨tr, htr⟩ : ∃ z, z = (T.pair .nil (T.nm d)) := ⟨_, rfl⟩
          rw [← htr] at r3
          have htrs : tr.size ≤ 10000000 := by rw [htr]; simp only [T.size, T.nm_size]; omega
          have HTR := hide htr
          have HR := hide r3
          clear htr r3
          have FBs := FB.size
          go_wp2_with fail
          go_region_held3 (fun W => W.cell? ⟨wr.heap.size, 0, none⟩ = some (.int .i64 5) ∧ W.cell? ⟨wr.heap.size, 1, none⟩ = some (.int .i64 a)) (first | go_keep | (constructor <;> assumption)) (first | (go_at_call 25; (with_reducible refine (pair_any _ (some ⟨v2.heap.size + 1, 0, none⟩) pc (T.pair (T.nm 5) (.pair (T.nm a) tr)) (codeT (q.drop (j + 1))) (rep_sz (Rep.pair_new (ty := 102) (w := v2.alloc (.cells #[.pointer o2, .pointer (some ⟨w1.heap.size, 0, none⟩), .int .i64 (T.pair (T.nm a) tr).size] 102)) ((s1.below e2).alloc _) (Rep.pair_new s2 ((HR.out.drew.below e1).below e2))) (by simp)) ((((((RB.out.drew.below e1).below e2).alloc _).alloc _))) (by simp only [T.size, T.nm_size]; omega)).mono ?_); rintro e v5 ⟨rfl, rfl⟩; have C5 := HC4.out.alloc (.cells #[.pointer (some ⟨v2.heap.size + 1, 0, none⟩), .pointer pc, .int .i64 (T.pair (T.pair (T.nm 5) (.pair (T.nm a) tr)) (codeT (q.drop (j + 1)))).size] 102); have x5 : (((v2.alloc (.cells #[.pointer o2, .pointer (some ⟨w1.heap.size, 0, none⟩), .int .i64 (T.pair (T.nm a) tr).size] 102)).alloc (.cells #[.pointer o1, .pointer (some ⟨v2.heap.size, 0, none⟩), .int .i64 (T.pair (T.nm 5) (.pair (T.nm a) tr)).size] 102)).alloc (.cells #[.pointer (some ⟨v2.heap.size + 1, 0, none⟩), .pointer pc, .int .i64 (T.pair (T.pair (T.nm 5) (.pair (T.nm a) tr)) (codeT (q.drop (j + 1)))).size] 102)).cell? ⟨wr.heap.size, 0, none⟩ = some (.int .i64 5) := (C5.cell 0).trans rfl; have x5b : (((v2.alloc (.cells #[.pointer o2, .pointer (some ⟨w1.heap.size, 0, none⟩), .int .i64 (T.pair (T.nm a) tr).size] 102)).alloc (.cells #[.pointer o1, .pointer (some ⟨v2.heap.size, 0, none⟩), .int .i64 (T.pair (T.nm 5) (.pair (T.nm a) tr)).size] 102)).alloc (.cells #[.pointer (some ⟨v2.heap.size + 1, 0, none⟩), .pointer pc, .int .i64 (T.pair (T.pair (T.nm 5) (.pair (T.nm a) tr)) (codeT (q.drop (j + 1)))).size] 102)).cell? ⟨wr.heap.size, 1, none⟩ = some (.int .i64 a) := (C5.cell 1).trans rfl; have HC5 := hide C5; clear C5) | (go_at_call 25; (with_reducible refine (pair_any _ o1 (some ⟨v2.heap.size, 0, none⟩) (T.nm 5) (.pair (T.nm a) tr) ((s1.below e2).alloc _) (Rep.pair_new s2 ((HR.out.drew.below e1).below e2)) (by simp only [T.size, T.nm_size]; omega)).mono ?_); rintro e v4 ⟨rfl, rfl⟩; have C4 := HC3.out.alloc (.cells #[.pointer o1, .pointer (some ⟨v2.heap.size, 0, none⟩), .int .i64 (T.pair (T.nm 5) (.pair (T.nm a) tr)).size] 102); have x4 : ((v2.alloc (.cells #[.pointer o2, .pointer (some ⟨w1.heap.size, 0, none⟩), .int .i64 (T.pair (T.nm a) tr).size] 102)).alloc (.cells #[.pointer o1, .pointer (some ⟨v2.heap.size, 0, none⟩), .int .i64 (T.pair (T.nm 5) (.pair (T.nm a) tr)).size] 102)).cell? ⟨wr.heap.size, 0, none⟩ = some (.int .i64 5) := (C4.cell 0).trans rfl; have x4b : ((v2.alloc (.cells #[.pointer o2, .pointer (some ⟨w1.heap.size, 0, none⟩), .int .i64 (T.pair (T.nm a) tr).size] 102)).alloc (.cells #[.pointer o1, .pointer (some ⟨v2.heap.size, 0, none⟩), .int .i64 (T.pair (T.nm 5) (.pair (T.nm a) tr)).size] 102)).cell? ⟨wr.heap.size, 1, none⟩ = some (.int .i64 a) := (C4.cell 1).trans rfl; have HC4 := hide C4; clear C4) | (go_at_call 25; (with_reducible refine (pair_any _ o2 (some ⟨w1.heap.size, 0, none⟩) (T.nm a) tr s2 ((HR.out.drew.below e1).below e2) (by rw [T.nm_size]; omega)).mono ?_); rintro e v3 ⟨rfl, rfl⟩; have C3 := HC2.out.alloc (.cells #[.pointer o2, .pointer (some ⟨w1.heap.size, 0, none⟩), .int .i64 (T.pair (T.nm a) tr).size] 102); have x3 : (v2.alloc (.cells #[.pointer o2, .pointer (some ⟨w1.heap.size, 0, none⟩), .int .i64 (T.pair (T.nm a) tr).size] 102)).cell? ⟨wr.heap.size, 0, none⟩ = some (.int .i64 5) := (C3.cell 0).trans rfl; have x3b : (v2.alloc (.cells #[.pointer o2, .pointer (some ⟨w1.heap.size, 0, none⟩), .int .i64 (T.pair (T.nm a) tr).size] 102)).cell? ⟨wr.heap.size, 1, none⟩ = some (.int .i64 a) := (C3.cell 1).trans rfl; have HC3 := hide C3; clear C3) | (go_at_call 99; (with_reducible refine (num_of _ (a : Int) a rfl (by omega)).mono ?_); rintro e v2 ⟨o2, rfl, e2, s2⟩; have C2 := HC1.out.below e2 HC1.out.lt; have x2 : v2.cell? ⟨wr.heap.size, 0, none⟩ = some (.int .i64 5) := (C2.cell 0).trans rfl; have x2b : v2.cell? ⟨wr.heap.size, 1, none⟩ = some (.int .i64 a) := (C2.cell 1).trans rfl; have HC2 := hide C2; clear C2) | (go_at_call 99; (with_reducible refine (num_of _ (5 : Int) 5 rfl (by omega)).mono ?_); rintro e v1 ⟨o1, rfl, e1, s1⟩; have C1 := BQ.out.drew.below e1 BQ.out.lt; have x1 : v1.cell? ⟨wr.heap.size, 0, none⟩ = some (.int .i64 5) := (C1.cell 0).trans rfl; have x1b : v1.cell? ⟨wr.heap.size, 1, none⟩ = some (.int .i64 a) := (C1.cell 1).trans rfl; have HC1 := hide C1; clear C1))
          go_wp2
          go_roundw
          case rel =>
            have hw2 : Below w.heap.size w v2 := (FB.drew.trans (e1.mono (by simpa using FBs))).trans (e2.mono (by have := e1.size; simp at this; omega))
            have hs2 := hw2.size
            refine ⟨j, _, by omega, by simp, rfl, ?_, ((hw2.alloc hs2 _).alloc (by simp; omega) _).alloc (by simp; omega) _⟩
            have e : codeT (q.drop j) = T.pair (T.pair (T.nm 5) (.pair (T.nm a) tr)) (codeT (q.drop (j + 1))) := by rw [HCODE.out]; rw [HTR.out]; simp only [I.code]; rw [if_neg (by omega)]; simp
            rw [e]
            exact rep_sz (Rep.pair_new (rep_sz (Rep.pair_new (ty := 102) (w := v2.alloc (.cells #[.pointer o2, .pointer (some ⟨w1.heap.size, 0, none⟩), .int .i64 (T.pair (T.nm a) tr).size] 102)) ((s1.below e2).alloc _) (Rep.pair_new s2 ((HR.out.drew.below e1).below e2))) (by simp)) ((((((RB.out.drew.below e1).below e2).alloc _).alloc _)))) (by simp)
          case measure => simp [intOf]
        · obtain ⟨d, rfl⟩ : ∃ k : Nat, d = -(k : Int) := ⟨(-d).toNat, by omega⟩
          have hdb : d ≤ 100000 := by omega
          have hdp : 1 ≤ d := by omega
          have hd2 : (-(d : Int) < 0) := by omega
          have hblk := Blk.new wr 41 #[.int .i64 5, .int .i64 a, .int .i64 (-(d : Int)), .int .i64 0, .string ByteArray.empty]
          have HBLK := hide hblk
          have d0 : (wr.alloc (.cells #[.int .i64 5, .int .i64 a, .int .i64 (-(d : Int)), .int .i64 0, .string ByteArray.empty] 41)).cell? ⟨wr.heap.size, 0, none⟩ = some (.int .i64 (5)) := by rw [hblk.cell]; rfl
          have d1 : (wr.alloc (.cells #[.int .i64 5, .int .i64 a, .int .i64 (-(d : Int)), .int .i64 0, .string ByteArray.empty] 41)).cell? ⟨wr.heap.size, 1, none⟩ = some (.int .i64 (a)) := by rw [hblk.cell]; rfl
          have d2 : (wr.alloc (.cells #[.int .i64 5, .int .i64 a, .int .i64 (-(d : Int)), .int .i64 0, .string ByteArray.empty] 41)).cell? ⟨wr.heap.size, 2, none⟩ = some (.int .i64 (-(d : Int))) := by rw [hblk.cell]; rfl
          have d3 : (wr.alloc (.cells #[.int .i64 5, .int .i64 a, .int .i64 (-(d : Int)), .int .i64 0, .string ByteArray.empty] 41)).cell? ⟨wr.heap.size, 3, none⟩ = some (.int .i64 (0)) := by rw [hblk.cell]; rfl
          have d4 : (wr.alloc (.cells #[.int .i64 5, .int .i64 a, .int .i64 (-(d : Int)), .int .i64 0, .string ByteArray.empty] 41)).cell? ⟨wr.heap.size, 4, none⟩ = some (.string ByteArray.empty) := by rw [hblk.cell]; rfl
          clear hblk
          have FA : Below w.heap.size w (wr.alloc (.cells #[.int .i64 5, .int .i64 a, .int .i64 (-(d : Int)), .int .i64 0, .string ByteArray.empty] 41)) := hbel.alloc hsz _
          have SA : w.heap.size ≤ (wr.alloc (.cells #[.int .i64 5, .int .i64 a, .int .i64 (-(d : Int)), .int .i64 0, .string ByteArray.empty] 41)).heap.size := FA.size
          have RA := hide (hrep.alloc (.cells #[.int .i64 5, .int .i64 a, .int .i64 (-(d : Int)), .int .i64 0, .string ByteArray.empty] 41))
          go_wp2_with fail
          refine (num_neg _ (-(d : Int)) (by omega)).mono ?_; rintro e w1 ⟨p1, rfl, bq1, r1⟩
          have B1 := HBLK.out.below bq1 HBLK.out.lt
          go_wp2_with fail
          refine (pair_any w1 none p1 .nil .nil rfl r1 (by simp only [T.size]; omega)).mono ?_; rintro e w2 ⟨rfl, rfl⟩
          have B2 := B1.alloc (.cells #[.pointer none, .pointer p1, .int .i64 (T.pair .nil .nil).size] 102)
          obtain ⟨w2, hw2⟩ : ∃ z, z = w1.alloc (.cells #[.pointer none, .pointer p1, .int .i64 (T.pair .nil .nil).size] 102) := ⟨_, rfl⟩
          rw [← hw2] at B2 ⊢
          have bb2 : Below wr.heap.size wr w2 := by rw [hw2]; exact ((((Below.refl wr.heap.size wr).alloc (Nat.le_refl _) _)).trans (bq1.mono (by simp))).alloc (by have := bq1.size; simp at this; omega) _
          clear hw2
          have d2b : w2.cell? ⟨wr.heap.size, 2, none⟩ = some (.int .i64 (-(d : Int))) := (B2.cell 2).trans rfl
          have HB2 := hide B2
          clear B1 B2
          go_wp2_with fail
          have hwrap : IntKind.i64.wrap (d : Int) = (d : Int) := by rw [IntKind.wrap_i64]; omega
          go_region_held3 (fun W => W.cell? ⟨wr.heap.size, 2, none⟩ = some (.int .i64 (-(d : Int)))) (first | go_keep | assumption) (first | (go_at_call 25; (with_reducible refine (pair_any _ p1 p2 (T.nm 1) (T.nm d) (r1.below bq2) r2 (by rw [T.nm_size, T.nm_size]; omega)).mono ?_); rintro e y3 ⟨rfl, rfl⟩; have D3 := HD2.out.alloc (.cells #[.pointer p1, .pointer p2, .int .i64 (T.pair (T.nm 1) (T.nm d)).size] 102); have z6 : (y2.alloc (.cells #[.pointer p1, .pointer p2, .int .i64 (T.pair (T.nm 1) (T.nm d)).size] 102)).cell? ⟨wr.heap.size, 2, none⟩ = some (.int .i64 (-(d : Int))) := (D3.cell 2).trans rfl; have HD3 := hide D3; clear D3) | (go_at_call 99; (with_reducible refine (num_of _ (d : Int) d rfl (by omega)).mono ?_); rintro e y2 ⟨p2, rfl, bq2, r2⟩; have D2 := HD1.out.below bq2 HD1.out.lt; have z4 : y2.cell? ⟨wr.heap.size, 2, none⟩ = some (.int .i64 (-(d : Int))) := (D2.cell 2).trans rfl; have HD2 := hide D2; clear D2) | (go_at_call 99; (with_reducible refine (num_of _ (1 : Int) 1 rfl (by omega)).mono ?_); rintro e y1 ⟨p1, rfl, bq1, r1⟩; have D1 := HB2.out.drew.below bq1 HB2.out.lt; have z2 : y1.cell? ⟨wr.heap.size, 2, none⟩ = some (.int .i64 (-(d : Int))) := (D1.cell 2).trans rfl; have HD1 := hide D1; clear D1))
          have q0 : (y2.alloc (.cells #[.pointer p1, .pointer p2, .int .i64 (T.pair (T.nm 1) (T.nm d)).size] 102)).cell? ⟨wr.heap.size, 0, none⟩ = some (.int .i64 5) := (HD3.out.cell 0).trans rfl
          have q1 : (y2.alloc (.cells #[.pointer p1, .pointer p2, .int .i64 (T.pair (T.nm 1) (T.nm d)).size] 102)).cell? ⟨wr.heap.size, 1, none⟩ = some (.int .i64 a) := (HD3.out.cell 1).trans rfl
          have BQ := HD3
          have r3 := Rep.pair_new (r1.below bq2) r2
          have bb4 : Below wr.heap.size wr y2 := (bb2.drew.trans (bq1.mono (by simpa using bb2.size))).trans (bq2.mono (by have h1 : w2.heap.size ≤ y1.heap.size := bq1.size; have := bb2.size; omega))
          have bb3 := bb4.alloc bb4.size (.cells #[.pointer p1, .pointer p2, .int .i64 (T.pair (T.nm 1) (T.nm d)).size] 102)
          have RB := hide (HREP.out.below bb3)
          have FB := hbel.trans (bb3.mono hsz)
          clear hwrap z2 z4 z6 HD1 HD2 HB2 bq1 bq2 r1 r2 bb2 bb4 d2b
          obtain ⟨W1, hW1⟩ : ∃ z, z = (y2.alloc (.cells #[.pointer p1, .pointer p2, .int .i64 (T.pair (T.nm 1) (T.nm d)).size] 102)) := ⟨_, rfl⟩
          rw [← hW1] at q0 q1 BQ RB FB r3 ⊢
          clear hW1
          obtain ⟨tr, htr⟩ : ∃ z, z = (T.pair (T.nm 1) (T.nm d)) := ⟨_, rfl⟩
          rw [← htr] at r3
          have htrs : tr.size ≤ 10000000 := by rw [htr]; simp only [T.size, T.nm_size]; omega
          have HTR := hide htr
          have HR := hide r3
          clear htr r3
          have FBs := FB.size
          go_wp2_with fail
          go_region_held3 (fun W => W.cell? ⟨wr.heap.size, 0, none⟩ = some (.int .i64 5) ∧ W.cell? ⟨wr.heap.size, 1, none⟩ = some (.int .i64 a)) (first | go_keep | (constructor <;> assumption)) (first | (go_at_call 25; (with_reducible refine (pair_any _ (some ⟨v2.heap.size + 1, 0, none⟩) pc (T.pair (T.nm 5) (.pair (T.nm a) tr)) (codeT (q.drop (j + 1))) (rep_sz (Rep.pair_new (ty := 102) (w := v2.alloc (.cells #[.pointer o2, .pointer (some ⟨y2.heap.size, 0, none⟩), .int .i64 (T.pair (T.nm a) tr).size] 102)) ((s1.below e2).alloc _) (Rep.pair_new s2 ((HR.out.drew.below e1).below e2))) (by simp)) ((((((RB.out.drew.below e1).below e2).alloc _).alloc _))) (by simp only [T.size, T.nm_size]; omega)).mono ?_); rintro e v5 ⟨rfl, rfl⟩; have C5 := HC4.out.alloc (.cells #[.pointer (some ⟨v2.heap.size + 1, 0, none⟩), .pointer pc, .int .i64 (T.pair (T.pair (T.nm 5) (.pair (T.nm a) tr)) (codeT (q.drop (j + 1)))).size] 102); have x5 : (((v2.alloc (.cells #[.pointer o2, .pointer (some ⟨y2.heap.size, 0, none⟩), .int .i64 (T.pair (T.nm a) tr).size] 102)).alloc (.cells #[.pointer o1, .pointer (some ⟨v2.heap.size, 0, none⟩), .int .i64 (T.pair (T.nm 5) (.pair (T.nm a) tr)).size] 102)).alloc (.cells #[.pointer (some ⟨v2.heap.size + 1, 0, none⟩), .pointer pc, .int .i64 (T.pair (T.pair (T.nm 5) (.pair (T.nm a) tr)) (codeT (q.drop (j + 1)))).size] 102)).cell? ⟨wr.heap.size, 0, none⟩ = some (.int .i64 5) := (C5.cell 0).trans rfl; have x5b : (((v2.alloc (.cells #[.pointer o2, .pointer (some ⟨y2.heap.size, 0, none⟩), .int .i64 (T.pair (T.nm a) tr).size] 102)).alloc (.cells #[.pointer o1, .pointer (some ⟨v2.heap.size, 0, none⟩), .int .i64 (T.pair (T.nm 5) (.pair (T.nm a) tr)).size] 102)).alloc (.cells #[.pointer (some ⟨v2.heap.size + 1, 0, none⟩), .pointer pc, .int .i64 (T.pair (T.pair (T.nm 5) (.pair (T.nm a) tr)) (codeT (q.drop (j + 1)))).size] 102)).cell? ⟨wr.heap.size, 1, none⟩ = some (.int .i64 a) := (C5.cell 1).trans rfl; have HC5 := hide C5; clear C5) | (go_at_call 25; (with_reducible refine (pair_any _ o1 (some ⟨v2.heap.size, 0, none⟩) (T.nm 5) (.pair (T.nm a) tr) ((s1.below e2).alloc _) (Rep.pair_new s2 ((HR.out.drew.below e1).below e2)) (by simp only [T.size, T.nm_size]; omega)).mono ?_); rintro e v4 ⟨rfl, rfl⟩; have C4 := HC3.out.alloc (.cells #[.pointer o1, .pointer (some ⟨v2.heap.size, 0, none⟩), .int .i64 (T.pair (T.nm 5) (.pair (T.nm a) tr)).size] 102); have x4 : ((v2.alloc (.cells #[.pointer o2, .pointer (some ⟨y2.heap.size, 0, none⟩), .int .i64 (T.pair (T.nm a) tr).size] 102)).alloc (.cells #[.pointer o1, .pointer (some ⟨v2.heap.size, 0, none⟩), .int .i64 (T.pair (T.nm 5) (.pair (T.nm a) tr)).size] 102)).cell? ⟨wr.heap.size, 0, none⟩ = some (.int .i64 5) := (C4.cell 0).trans rfl; have x4b : ((v2.alloc (.cells #[.pointer o2, .pointer (some ⟨y2.heap.size, 0, none⟩), .int .i64 (T.pair (T.nm a) tr).size] 102)).alloc (.cells #[.pointer o1, .pointer (some ⟨v2.heap.size, 0, none⟩), .int .i64 (T.pair (T.nm 5) (.pair (T.nm a) tr)).size] 102)).cell? ⟨wr.heap.size, 1, none⟩ = some (.int .i64 a) := (C4.cell 1).trans rfl; have HC4 := hide C4; clear C4) | (go_at_call 25; (with_reducible refine (pair_any _ o2 (some ⟨y2.heap.size, 0, none⟩) (T.nm a) tr s2 ((HR.out.drew.below e1).below e2) (by rw [T.nm_size]; omega)).mono ?_); rintro e v3 ⟨rfl, rfl⟩; have C3 := HC2.out.alloc (.cells #[.pointer o2, .pointer (some ⟨y2.heap.size, 0, none⟩), .int .i64 (T.pair (T.nm a) tr).size] 102); have x3 : (v2.alloc (.cells #[.pointer o2, .pointer (some ⟨y2.heap.size, 0, none⟩), .int .i64 (T.pair (T.nm a) tr).size] 102)).cell? ⟨wr.heap.size, 0, none⟩ = some (.int .i64 5) := (C3.cell 0).trans rfl; have x3b : (v2.alloc (.cells #[.pointer o2, .pointer (some ⟨y2.heap.size, 0, none⟩), .int .i64 (T.pair (T.nm a) tr).size] 102)).cell? ⟨wr.heap.size, 1, none⟩ = some (.int .i64 a) := (C3.cell 1).trans rfl; have HC3 := hide C3; clear C3) | (go_at_call 99; (with_reducible refine (num_of _ (a : Int) a rfl (by omega)).mono ?_); rintro e v2 ⟨o2, rfl, e2, s2⟩; have C2 := HC1.out.below e2 HC1.out.lt; have x2 : v2.cell? ⟨wr.heap.size, 0, none⟩ = some (.int .i64 5) := (C2.cell 0).trans rfl; have x2b : v2.cell? ⟨wr.heap.size, 1, none⟩ = some (.int .i64 a) := (C2.cell 1).trans rfl; have HC2 := hide C2; clear C2) | (go_at_call 99; (with_reducible refine (num_of _ (5 : Int) 5 rfl (by omega)).mono ?_); rintro e v1 ⟨o1, rfl, e1, s1⟩; have C1 := BQ.out.drew.below e1 BQ.out.lt; have x1 : v1.cell? ⟨wr.heap.size, 0, none⟩ = some (.int .i64 5) := (C1.cell 0).trans rfl; have x1b : v1.cell? ⟨wr.heap.size, 1, none⟩ = some (.int .i64 a) := (C1.cell 1).trans rfl; have HC1 := hide C1; clear C1))
          go_wp2
          go_roundw
          case rel =>
            have hw2 : Below w.heap.size w v2 := (FB.drew.trans (e1.mono (by simpa using FBs))).trans (e2.mono (by have := e1.size; simp at this; omega))
            have hs2 := hw2.size
            refine ⟨j, _, by omega, by simp, rfl, ?_, ((hw2.alloc hs2 _).alloc (by simp; omega) _).alloc (by simp; omega) _⟩
            have e : codeT (q.drop j) = T.pair (T.pair (T.nm 5) (.pair (T.nm a) tr)) (codeT (q.drop (j + 1))) := by rw [HCODE.out]; rw [HTR.out]; simp only [I.code]; rw [if_pos hd2]; simp
            rw [e]
            exact rep_sz (Rep.pair_new (rep_sz (Rep.pair_new (ty := 102) (w := v2.alloc (.cells #[.pointer o2, .pointer (some ⟨y2.heap.size, 0, none⟩), .int .i64 (T.pair (T.nm a) tr).size] 102)) ((s1.below e2).alloc _) (Rep.pair_new s2 ((HR.out.drew.below e1).below e2))) (by simp)) ((((((RB.out.drew.below e1).below e2).alloc _).alloc _)))) (by simp)
          case measure => simp [intOf]
end Go.Proofs.Ytgbieakahgkkpaa
