import Derived.Test.YtgbieakahgkkpaaProg
import Derived.Test.YtgbieakahgkkpaaPMem
import Derived.Test.YtgbieakahgkkpaaCodeB
import Derived.Test.YtgbieakahgkkpaaGood
import Derived.WalkKit
import Derived.WalkSpells
import Derived.WalkLawsBesides
import Derived.Outline
import Derived.KernelRfl
namespace Go.Proofs.Ytgbieakahgkkpaa
open Go.RowKit

theorem right_yes (w : World) (op xa xb xc : Int) (tr : ByteArray) (i n : Nat) (ht : (tr.size : Int) ≤ 2000000) (hi : i ≤ 100000) (hn : n ≤ 100000) (h : okIns ⟨op, xa, xb, xc, tr⟩ i n) :
    Calls Try.prog 153 #[.agg #[.int .i64 op, .int .i64 xa, .int .i64 xb, .int .i64 xc, .string tr], .int .i64 i, .int .i64 n] w fun e w' => e = .returned (.bool true) ∧ Below w.heap.size w w' :=
  (right_any w op xa xb xc tr i n ht hi hn).mono fun e w' ⟨b, he, hb, hw⟩ => ⟨by rw [he, hb.2 h], hw⟩
theorem right_no (w : World) (op xa xb xc : Int) (tr : ByteArray) (i n : Nat) (ht : (tr.size : Int) ≤ 2000000) (hi : i ≤ 100000) (hn : n ≤ 100000) (h : ¬ okIns ⟨op, xa, xb, xc, tr⟩ i n) :
    Calls Try.prog 153 #[.agg #[.int .i64 op, .int .i64 xa, .int .i64 xb, .int .i64 xc, .string tr], .int .i64 i, .int .i64 n] w fun e w' => e = .returned (.bool false) ∧ Below w.heap.size w w' :=
  (right_any w op xa xb xc tr i n ht hi hn).mono fun e w' ⟨b, he, hb, hw⟩ => ⟨by rw [he]; cases b with | false => rfl | true => exact absurd (hb.1 rfl) h, hw⟩

set_option maxHeartbeats 4000000 in
set_option maxRecDepth 100000 in
/-- code.Valid: whether a program is valid. -/
theorem cvalid_any (w : World) (n cap : Nat) (A : Option Addr) (p : List Ins) (h : PMem w w.heap.size A n p) (hi : ∀ x ∈ p, x.I64) :
    Calls Try.prog 121 #[.slice A n cap] w (GoodPost p 4000 2000000 w) := by
  by_cases hmost : n ≤ 4000
  · have hd : decide ((4000 : Int) < (n : Int)) = false := decide_eq_false (by omega)
    have hd2 : decide (4000 < n) = false := decide_eq_false (by omega)
    go_enter Try.func121, Try.ntmps121
    go_wp2
    go_loopw [3, 11] (fun s i wr => GoodRel p 2000000 n w s i wr) (fun _ i _ => n - (intOf i).toNat)
    case atStart => exact ⟨0, by omega, rfl, rfl, by simp [treeSum], fun j x hj => by omega, Below.refl _ _⟩
    case round =>
      obtain ⟨k, hk, rfl, rfl, hsum, hall, hbel⟩ := hrel
      by_cases hlt : k < n
      · obtain ⟨b, off, ⟨op, xa, xb, xc, tr⟩, rfl, hb, hx, c0, c1, c2, c3, c4⟩ := (h.below hbel).at_ k hlt
        have hxi := hi _ (List.mem_of_getElem? hx)
        obtain ⟨hxop, hxa, hxb, hxc, hxt⟩ := hxi
        have HALL := hide hall
        obtain ⟨S, hS⟩ : ∃ S, S = treeSum (p.take k) := ⟨_, rfl⟩
        rw [← hS] at hsum ⊢
        have hsum' : (S : Int) ≤ 2000000 := by omega
        have HNOT : Hid (¬ (S + tr.size ≤ 2000000 ∧ okIns ⟨op, xa, xb, xc, tr⟩ k n) → ¬ goodP p 4000 2000000) := hide (fun hh => good_not hx (by rw [← hS, ← h.1]; exact hh))
        have HNEXT : Hid (S + tr.size ≤ 2000000 → okIns ⟨op, xa, xb, xc, tr⟩ k n → ∀ w' : World, Below w.heap.size w w' → GoodRel p 2000000 n w (.int .i64 ((S : Int) + tr.size)) (.int .i64 ((k : Int) + 1)) w') := hide (fun hs hok w' hb' => GoodRel.next hlt hx hS hs hall hok hb')
        clear hx hall hS hi h HALL hsum hxop hxa hxb hxc
        have hsz := hbel.size
        simp only at c0 c1 c2 c3 c4 hxt
        obtain ⟨M, hM⟩ : ∃ M, (if (2000001 : Int) < (tr.size : Int) then (2000001 : Int) else (tr.size : Int)) = M := ⟨_, rfl⟩
        by_cases hs : (S : Int) + (tr.size : Int) ≤ 2000000
        · have e : M = (tr.size : Int) := by rw [← hM, if_neg (by omega)]
          have hts : (tr.size : Int) ≤ 2000000 := by omega
          have hsn : S + tr.size ≤ 2000000 := by omega
          have HSN := hide hsn
          have hdd : decide ((2000000 : Int) < (S : Int) + (tr.size : Int)) = false := decide_eq_false (by omega)
          have hif : (if (2000001 : Int) < (tr.size : Int) then (2000001 : Int) else (tr.size : Int)) = (tr.size : Int) := by rw [if_neg (by omega)]
          clear hM e hsn
          by_cases hok : okIns ⟨op, xa, xb, xc, tr⟩ k n
          · have HOK := hide hok
            clear hok
            go_wp2_with fail
            refine (right_yes _ op xa xb xc tr k n hts (by omega) (by omega) HOK.out).mono ?_; rintro e w1 ⟨rfl, hb1⟩
            go_wp2
            go_roundw
            case rel => exact HNEXT.out HSN.out HOK.out _ ((hbel.alloc hsz _).trans (hb1.mono (by simp; omega)))
            case measure => simp [intOf]; omega
          · have HOK := hide hok
            clear hok
            go_wp2_with fail
            refine (right_no _ op xa xb xc tr k n hts (by omega) (by omega) HOK.out).mono ?_; rintro e w1 ⟨rfl, hb1⟩
            go_wp2
            go_ret
            exact good_false (HNOT.out (fun hh => HOK.out hh.2)) ((hbel.alloc hsz _).trans (hb1.mono (by simp; omega)))
        · have hm1 : (2000000 : Int) < (S : Int) + M := by rw [← hM]; split <;> omega
          have hm2 : 0 ≤ M := by rw [← hM]; split <;> omega
          have hm3 : M ≤ 2000001 := by rw [← hM]; split <;> omega
          have hdd : decide ((2000000 : Int) < (S : Int) + M) = true := decide_eq_true hm1
          have HS := hide hs
          clear hs
          go_wp2
          go_ret
          exact good_false (HNOT.out (fun hh => by have := HS.out; omega)) (hbel.alloc hsz _)
      · have e : goodP p 4000 2000000 ↔ True := by
          have hkn : k = n := by omega
          subst hkn
          refine ⟨fun _ => trivial, fun _ => ⟨by rw [← h.1]; exact hmost, by rw [h.1, List.take_length] at hsum; exact hsum, fun i x hx => ?_⟩⟩
          rw [← h.1]
          exact hall i x (by rw [h.1]; exact (List.getElem?_eq_some_iff.1 hx).1) hx
        have HE := hide e
        clear e hall
        go_wp2
        go_ret
        exact ⟨true, rfl, by rw [HE.out]; simp, hbel⟩
  · have hd : decide ((4000 : Int) < (n : Int)) = true := decide_eq_true (by omega)
    have hd2 : decide (4000 < n) = true := decide_eq_true (by omega)
    go_enter Try.func121, Try.ntmps121
    go_wp2
    go_ret
    exact good_false (fun hg => hmost (by rw [h.1]; exact hg.1)) (Below.refl _ _)
end Go.Proofs.Ytgbieakahgkkpaa
