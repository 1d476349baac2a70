import Derived.Test.YtgbieakahgkkpaaProg
import Derived.Test.YtgbieakahgkkpaaPMem
import Derived.Test.YtgbieakahgkkpaaTopA
import Derived.Test.YtgbieakahgkkpaaTopB
import Derived.Test.YtgbieakahgkkpaaGood
import Derived.WalkKit
import Derived.WalkSpells
import Derived.WalkLawsBesides
import Derived.Outline
import Derived.KernelRfl
namespace Go.Proofs.Ytgbieakahgkkpaa
open Go.RowKit

theorem register_yes (w : World) (n : Int) (h : 0 ≤ n ∧ n < 32) : Calls Try.prog 96 #[.int .i64 n] w fun e w' => e = .returned (.bool true) ∧ w = w' :=
  (register_any w n).mono fun e w' ⟨he, hw⟩ => ⟨by rw [he]; simp [h], hw⟩
theorem register_no (w : World) (n : Int) (h : ¬ (0 ≤ n ∧ n < 32)) : Calls Try.prog 96 #[.int .i64 n] w fun e w' => e = .returned (.bool false) ∧ w = w' :=
  (register_any w n).mono fun e w' ⟨he, hw⟩ => ⟨by rw [he]; simp; omega, hw⟩
theorem grow_some (s : ByteArray) (most : Int) (w : World) (t : T) (hm : 0 ≤ most ∧ most ≤ 100000000) (hs : growSpec s most = some t) :
    Calls Try.prog 21 #[.string s, .int .i64 most] w fun e w' => ∃ p, e = .returned (.tuple #[.pointer p, .bool true]) ∧ Below w.heap.size w w' ∧ Rep 102 w' p t :=
  (grow_any s most w hm).mono fun e w' ⟨p, he, hb, _, hr⟩ => ⟨p, by rw [he, hs]; rfl, hb, hr t hs⟩
theorem grow_none (s : ByteArray) (most : Int) (w : World) (hm : 0 ≤ most ∧ most ≤ 100000000) (hs : growSpec s most = none) :
    Calls Try.prog 21 #[.string s, .int .i64 most] w fun e w' => e = .returned (.tuple #[.pointer none, .bool false]) ∧ Below w.heap.size w w' :=
  (grow_any s most w hm).mono fun e w' ⟨p, he, hb, hn, _⟩ => ⟨by rw [he, hs, hn hs]; rfl, hb⟩

set_option maxHeartbeats 8000000 in
set_option maxRecDepth 100000 in
/-- good: whether a program is valid, and has at most some instructions and characters of trees. -/
theorem good_any (w : World) (n cap : Nat) (A : Option Addr) (p : List Ins) (most chars : Nat) (hm : most ≤ 4000) (hc : chars ≤ 2000000) (h : PMem w w.heap.size A n p) (hi : ∀ x ∈ p, x.I64) :
    Calls Try.prog 22 #[.slice A n cap, .int .i64 most, .int .i64 chars] w (GoodPost p most chars w) := by
  by_cases hmost : n ≤ most
  · have hd : decide (most < n) = false := by simp; omega
    go_enter Try.func22, Try.ntmps22
    go_wp2
    go_loopw [7, 8] (fun s i wr => GoodRel p chars n w s i wr) (fun _ i _ => n - (intOf i).toNat)
    case atStart => exact ⟨0, by omega, rfl, rfl, by simp [treeSum], fun j x hj => by omega, Below.refl _ _⟩
    case round =>
      obtain ⟨k, hk, rfl, rfl, hsum, hall, hbel⟩ := hrel
      by_cases hlt : k < n
      · obtain ⟨b, off, ⟨op, xa, xb, xc, tr⟩, rfl, hb, hx, c0, c1, c2, c3, c4⟩ := (h.below hbel).at_ k hlt
        have hxi := hi _ (List.mem_of_getElem? hx)
        obtain ⟨hxop, hxa, hxb, hxc, hxt⟩ := hxi
        unfold I64 at hxop hxa hxb hxc
        have HALL := hide hall
        obtain ⟨S, hS⟩ : ∃ S, S = treeSum (p.take k) := ⟨_, rfl⟩
        rw [← hS] at hsum ⊢
        have HNOT : Hid (¬ (S + tr.size ≤ chars ∧ okIns ⟨op, xa, xb, xc, tr⟩ k n) → ¬ goodP p most chars) := hide (fun hh => good_not hx (by rw [← hS, ← h.1]; exact hh))
        have HNEXT : Hid (S + tr.size ≤ chars → okIns ⟨op, xa, xb, xc, tr⟩ k n → ∀ w' : World, Below w.heap.size w w' → GoodRel p chars n w (.int .i64 ((S : Int) + tr.size)) (.int .i64 ((k : Int) + 1)) w') := hide (fun hs hok w' hb' => GoodRel.next hlt hx hS hs hall hok hb')
        clear hx hall hS hi h HALL
        have hsz := hbel.size
        simp only at c0 c1 c2 c3 c4 hxop hxa hxb hxc hxt
        unfold okIns reg at HNOT
        by_cases hs : S + tr.size ≤ chars
        · by_cases ha : 0 ≤ xa ∧ xa < 32
          · by_cases h0 : op = 0
            · subst h0
              by_cases hc0 : xc = 0
              · subst hc0
                cases hg : growSpec tr chars with
                | none =>
                  have HT := hide hg
                  clear hg
                  go_wp2_with fail
                  refine (register_yes _ _ ha).mono ?_; rintro e w' ⟨rfl, rfl⟩
                  go_wp2_with fail
                  refine (grow_none _ _ _ (by omega) HT.out).mono ?_; rintro e w1 ⟨rfl, hb1⟩; have hbx := (Blk.new wr 41 _).below hb1 (by simp); have hx2 := hbx.cell 2; simp at hx2; clear hbx
                  go_wp2
                  go_ret
                  exact good_false (HNOT.out (fun ⟨hs', hok⟩ => by obtain ⟨_, ht, hc', hd⟩ := hok; have := HT.out; unfold growSpec at this; rw [if_neg (by omega)] at this; simp [this] at hd)) ((hbel.alloc hsz _).trans (hb1.mono (by simp; omega)))
                | some t =>
                  have HT := hide hg
                  clear hg
                  by_cases hb0 : xb = 0
                  · subst hb0
                    go_wp2_with fail
                    refine (register_yes _ _ ha).mono ?_; rintro e w' ⟨rfl, rfl⟩
                    go_wp2_with fail
                    refine (grow_some _ _ _ t (by omega) HT.out).mono ?_; rintro e w1 ⟨q, rfl, hb1, _⟩; have hbx := (Blk.new wr 41 _).below hb1 (by simp); have hx2 := hbx.cell 2; simp at hx2; clear hbx
                    go_wp2
                    go_roundw
                    case rel => exact HNEXT.out hs (ok_mk0 ha (by have := HT.out; unfold growSpec at this; rw [if_neg (by omega)] at this; simp [this])) _ ((hbel.alloc hsz _).trans (hb1.mono (by simp; omega)))
                    case measure => simp [intOf]; omega
                  · have hb1' : (xb != 0) = true := by simp [hb0]
                    go_wp2_with fail
                    refine (register_yes _ _ ha).mono ?_; rintro e w' ⟨rfl, rfl⟩
                    go_wp2_with fail
                    refine (grow_some _ _ _ t (by omega) HT.out).mono ?_; rintro e w1 ⟨q, rfl, hb1, _⟩; have hbx := (Blk.new wr 41 _).below hb1 (by simp); have hx2 := hbx.cell 2; simp at hx2; clear hbx
                    go_wp2
                    go_ret
                    exact good_false (HNOT.out (fun ⟨_, hok⟩ => by obtain ⟨_, ht, hc', hd⟩ := hok; simp at ht hc' hd; omega)) ((hbel.alloc hsz _).trans (hb1.mono (by simp; omega)))
              · have hc1 : (xc != 0) = true := by simp [hc0]
                go_wp2_with fail
                refine (register_yes _ _ ha).mono ?_; rintro e w' ⟨rfl, rfl⟩
                go_wp2
                go_ret
                exact good_false (HNOT.out (fun ⟨_, hok⟩ => by obtain ⟨_, ht, hc', hd⟩ := hok; simp at ht hc' hd; omega)) (hbel.alloc hsz _)
            · have h0a : (op != 0) = true := by simp [h0]
              have h0b : (op == 0) = false := by simp [h0]
              by_cases hte : tr.toList = []
              · have hte1 : tr.toList.isEmpty = true := by rw [hte]; rfl
                have htz := empty_of_list hte
                have HTZ := hide htz
                clear htz
                by_cases h2 : op = 2
                · subst h2
                  by_cases hrb : 0 ≤ xb ∧ xb < 32
                  · by_cases hrc : 0 ≤ xc ∧ xc < 32
                    · skip
                      go_wp2_with fail
                      refine (register_yes _ _ ha).mono ?_; rintro e w' ⟨rfl, rfl⟩
                      go_wp2_with fail
                      refine (register_yes _ _ hrb).mono ?_; rintro e w' ⟨rfl, rfl⟩
                      go_wp2_with fail
                      refine (register_yes _ _ hrc).mono ?_; rintro e w' ⟨rfl, rfl⟩
                      go_wp2
                      go_roundw
                      case rel => exact HNEXT.out hs (ok_mk2 ha hrb hrc HTZ.out) _ (hbel.alloc hsz _)
                      case measure => simp [intOf]; omega
                    · skip
                      go_wp2_with fail
                      refine (register_yes _ _ ha).mono ?_; rintro e w' ⟨rfl, rfl⟩
                      go_wp2_with fail
                      refine (register_yes _ _ hrb).mono ?_; rintro e w' ⟨rfl, rfl⟩
                      go_wp2_with fail
                      refine (register_no _ _ hrc).mono ?_; rintro e w' ⟨rfl, rfl⟩
                      go_wp2
                      go_ret
                      exact good_false (HNOT.out (fun ⟨_, hok⟩ => by obtain ⟨_, ht, hc', hd⟩ := hok; simp at ht hc' hd; omega)) (hbel.alloc hsz _)
                  · skip
                    go_wp2_with fail
                    refine (register_yes _ _ ha).mono ?_; rintro e w' ⟨rfl, rfl⟩
                    go_wp2_with fail
                    refine (register_no _ _ hrb).mono ?_; rintro e w' ⟨rfl, rfl⟩
                    go_wp2
                    go_ret
                    exact good_false (HNOT.out (fun ⟨_, hok⟩ => by obtain ⟨_, ht, hc', hd⟩ := hok; simp at ht hc' hd; omega)) (hbel.alloc hsz _)
                · have h2a : (op != 2) = true := by simp [h2]
                  have h2b : (op == 2) = false := by simp [h2]
                  by_cases hc0 : xc = 0
                  · subst hc0
                    by_cases h134 : op = 1 ∨ op = 3 ∨ op = 4
                    · by_cases hrb : 0 ≤ xb ∧ xb < 32
                      · rcases h134 with rfl | rfl | rfl
                        · skip
                          go_wp2_with fail
                          refine (register_yes _ _ ha).mono ?_; rintro e w' ⟨rfl, rfl⟩
                          go_wp2_with fail
                          refine (register_yes _ _ hrb).mono ?_; rintro e w' ⟨rfl, rfl⟩
                          go_wp2
                          go_roundw
                          case rel => exact HNEXT.out hs (ok_mk134 ha hrb (.inl rfl) HTZ.out) _ (hbel.alloc hsz _)
                          case measure => simp [intOf]; omega
                        · skip
                          go_wp2_with fail
                          refine (register_yes _ _ ha).mono ?_; rintro e w' ⟨rfl, rfl⟩
                          go_wp2_with fail
                          refine (register_yes _ _ hrb).mono ?_; rintro e w' ⟨rfl, rfl⟩
                          go_wp2
                          go_roundw
                          case rel => exact HNEXT.out hs (ok_mk134 ha hrb (.inr (.inl rfl)) HTZ.out) _ (hbel.alloc hsz _)
                          case measure => simp [intOf]; omega
                        · skip
                          go_wp2_with fail
                          refine (register_yes _ _ ha).mono ?_; rintro e w' ⟨rfl, rfl⟩
                          go_wp2_with fail
                          refine (register_yes _ _ hrb).mono ?_; rintro e w' ⟨rfl, rfl⟩
                          go_wp2
                          go_roundw
                          case rel => exact HNEXT.out hs (ok_mk134 ha hrb (.inr (.inr rfl)) HTZ.out) _ (hbel.alloc hsz _)
                          case measure => simp [intOf]; omega
                      · rcases h134 with rfl | rfl | rfl
                        · skip
                          go_wp2_with fail
                          refine (register_yes _ _ ha).mono ?_; rintro e w' ⟨rfl, rfl⟩
                          go_wp2_with fail
                          refine (register_no _ _ hrb).mono ?_; rintro e w' ⟨rfl, rfl⟩
                          go_wp2
                          go_ret
                          exact good_false (HNOT.out (fun ⟨_, hok⟩ => by obtain ⟨_, ht, hc', hd⟩ := hok; simp at ht hc' hd; omega)) (hbel.alloc hsz _)
                        · skip
                          go_wp2_with fail
                          refine (register_yes _ _ ha).mono ?_; rintro e w' ⟨rfl, rfl⟩
                          go_wp2_with fail
                          refine (register_no _ _ hrb).mono ?_; rintro e w' ⟨rfl, rfl⟩
                          go_wp2
                          go_ret
                          exact good_false (HNOT.out (fun ⟨_, hok⟩ => by obtain ⟨_, ht, hc', hd⟩ := hok; simp at ht hc' hd; omega)) (hbel.alloc hsz _)
                        · skip
                          go_wp2_with fail
                          refine (register_yes _ _ ha).mono ?_; rintro e w' ⟨rfl, rfl⟩
                          go_wp2_with fail
                          refine (register_no _ _ hrb).mono ?_; rintro e w' ⟨rfl, rfl⟩
                          go_wp2
                          go_ret
                          exact good_false (HNOT.out (fun ⟨_, hok⟩ => by obtain ⟨_, ht, hc', hd⟩ := hok; simp at ht hc' hd; omega)) (hbel.alloc hsz _)
                    · have h1b : (op == 1) = false := by rw [beq_eq_false_iff_ne]; omega
                      have h3b : (op == 3) = false := by rw [beq_eq_false_iff_ne]; omega
                      have h4b : (op == 4) = false := by rw [beq_eq_false_iff_ne]; omega
                      by_cases h5 : op = 5
                      · subst h5
                        clear h134
                        by_cases hj1 : xb < -(k : Int)
                        · skip
                          go_wp2_with fail
                          refine (register_yes _ _ ha).mono ?_; rintro e w' ⟨rfl, rfl⟩
                          go_wp2
                          go_ret
                          exact good_false (HNOT.out (fun ⟨_, hok⟩ => by obtain ⟨_, ht, hc', hd⟩ := hok; simp at ht hc' hd; omega)) (hbel.alloc hsz _)
                        · by_cases hj2 : (n : Int) - k < xb
                          · skip
                            go_wp2_with fail
                            refine (register_yes _ _ ha).mono ?_; rintro e w' ⟨rfl, rfl⟩
                            go_wp2
                            go_ret
                            exact good_false (HNOT.out (fun ⟨_, hok⟩ => by obtain ⟨_, ht, hc', hd⟩ := hok; simp at ht hc' hd; omega)) (hbel.alloc hsz _)
                          · skip
                            go_wp2_with fail
                            refine (register_yes _ _ ha).mono ?_; rintro e w' ⟨rfl, rfl⟩
                            go_wp2
                            go_roundw
                            case rel => exact HNEXT.out hs (ok_mk5 ha (by omega) (by omega) HTZ.out) _ (hbel.alloc hsz _)
                            case measure => simp [intOf]; omega
                      · have h5b : (op == 5) = false := by simp [h5]
                        have HO := hide h134
                        clear h134
                        go_wp2_with fail
                        refine (register_yes _ _ ha).mono ?_; rintro e w' ⟨rfl, rfl⟩
                        go_wp2
                        go_ret
                        exact good_false (HNOT.out (fun ⟨_, hok⟩ => by obtain ⟨_, ht, hc', hd⟩ := hok; have := HO.out; simp at ht hc' hd; omega)) (hbel.alloc hsz _)
                  · have hc1 : (xc != 0) = true := by simp [hc0]
                    go_wp2_with fail
                    refine (register_yes _ _ ha).mono ?_; rintro e w' ⟨rfl, rfl⟩
                    go_wp2
                    go_ret
                    exact good_false (HNOT.out (fun ⟨_, hok⟩ => by obtain ⟨_, ht, hc', hd⟩ := hok; simp at ht hc' hd; omega)) (hbel.alloc hsz _)
              · have hte1 : tr.toList.isEmpty = false := by simp [hte]
                have htz : tr.size ≠ 0 := fun hz => hte (by rw [empty_of_size hz, ByteArray.toList_eq]; rfl)
                have HTZ := hide htz
                clear htz
                go_wp2_with fail
                refine (register_yes _ _ ha).mono ?_; rintro e w' ⟨rfl, rfl⟩
                go_wp2
                go_ret
                exact good_false (HNOT.out (fun ⟨_, hok⟩ => by obtain ⟨_, ht, hc', hd⟩ := hok; have := HTZ.out; simp at ht hc' hd; omega)) (hbel.alloc hsz _)
          · skip
            go_wp2_with fail
            refine (register_no _ _ ha).mono ?_; rintro e w' ⟨rfl, rfl⟩
            go_wp2
            go_ret
            exact good_false (HNOT.out (fun ⟨_, hok⟩ => ha hok.1)) (hbel.alloc hsz _)
        · skip
          go_wp2
          go_ret
          exact good_false (HNOT.out (fun ⟨hs', _⟩ => hs hs')) (hbel.alloc hsz _)
      · have e : goodP p most chars ↔ True := by
          have hkn : k = n := by omega
          subst hkn
          refine ⟨fun _ => trivial, fun _ => ⟨by rw [← h.1]; exact hmost, by rw [h.1, List.take_length] at hsum; exact hsum, fun i x hx => ?_⟩⟩
          rw [← h.1]
          exact hall i x (by rw [h.1]; exact (List.getElem?_eq_some_iff.1 hx).1) hx
        have HE := hide e
        clear e hall
        go_wp2
        go_ret
        exact ⟨true, rfl, by rw [HE.out]; simp, hbel⟩
  · go_enter Try.func22, Try.ntmps22
    go_wp2
    go_ret
    exact good_false (fun hg => hmost (by rw [h.1]; exact hg.1)) (Below.refl _ _)
end Go.Proofs.Ytgbieakahgkkpaa

