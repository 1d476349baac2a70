import Derived.Test.YtgbieakahgkkpaaTopH
import Derived.Test.YtgbieakahgkkpaaTopD
import Derived.WalkKit
import Derived.WalkSpells
import Derived.WalkLawsBesides
import Derived.Outline
import Derived.KernelRfl
namespace Go.Proofs.Ytgbieakahgkkpaa
open Go.RowKit

set_option maxHeartbeats 1000000 in
set_option maxRecDepth 100000 in
theorem returns_yes (w : World) (n cap : Nat) (A : Option Addr) (q : List I) (fuel : Nat) (p r : Option Addr) (x y : T) (h : PMem w w.heap.size A n (encP q)) (hi : ∀ x ∈ encP q, x.I64) (hg : goodP (encP q) 4000 2000000)
    (hx : Rep 102 w p x) (hxs : x.size ≤ 100000000) (hy : Rep 102 w r y) (hys : y.size ≤ 100000000) (hf : fuel ≤ 1000000000) (hp : play q fuel 0 (first x) = .ended y fuel) :
    Calls Try.prog 41 #[.slice A n cap, .int .i64 0, .pointer p, .pointer r, .int .i64 fuel] w fun e w' => e = .returned (.bool true) ∧ Below w.heap.size w w' := by
  have hw : WF q := by
    obtain ⟨q', e, hw, _⟩ := goodP_iff.1 hg
    rw [encP_inj e]; exact hw
  have hq : charsOf q ≤ 2000000 := by rw [← treeSum_enc]; exact hg.2.1
  have hn : n ≤ 4000 := by rw [h.1]; exact hg.1
  have HW := hide (whole_yes w n cap A (encP q) h hi hg)
  have HP := hide (fun (w1 : World) (hb : Below w.heap.size w w1) => play_any w1 n cap A q fuel p x ((h.below hb).more hb.size) hw hq hn (hx.below hb) hxs hf)
  have HE := hide (fun (w2 : World) (hb : Below w.heap.size w w2) (s : Option Addr) (hs : Rep 102 w2 s y) => equal_any w2 s r y y hs (hy.below hb) hys hys)
  have HPL := hide hp
  clear h hi hg hw hq hn hx hy hp
  go_enter Try.func41, Try.ntmps41
  go_wp2_with fail
  refine HW.out.mono ?_; rintro e w1 ⟨rfl, hb1⟩
  go_wp2_with fail
  refine (HP.out w1 hb1).mono ?_; rintro e w2 ⟨p2, k2, how2, rfl, hb2, hpost⟩
  rw [HPL.out] at hpost
  obtain ⟨rfl, rfl, hrep⟩ := hpost
  have hb12 := hb1.trans (hb2.mono hb1.size)
  go_wp2_with fail
  refine (HE.out w2 hb12 p2 hrep).mono ?_; rintro e w3 ⟨rfl, hb3⟩
  go_wp2
  go_ret
  exact ⟨by simp, hb12.trans (hb3.mono hb12.size)⟩

theorem lasts_yes (w : World) (n cap : Nat) (A : Option Addr) (q : List I) (fuel : Nat) (p : Option Addr) (x : T) (h : PMem w w.heap.size A n (encP q)) (hi : ∀ x ∈ encP q, x.I64) (hg : goodP (encP q) 4000 2000000)
    (hx : Rep 102 w p x) (hxs : x.size ≤ 100000000) (hf : fuel ≤ 1000000000) (hp : ∀ y j, play q fuel 0 (first x) ≠ .ended y j) :
    Calls Try.prog 40 #[.slice A n cap, .int .i64 0, .pointer p, .int .i64 fuel] w fun e w' => e = .returned (.bool true) ∧ Below w.heap.size w w' := by
  have hw : WF q := by
    obtain ⟨q', e, hw, _⟩ := goodP_iff.1 hg
    rw [encP_inj e]; exact hw
  have hq : charsOf q ≤ 2000000 := by rw [← treeSum_enc]; exact hg.2.1
  have hn : n ≤ 4000 := by rw [h.1]; exact hg.1
  have HW := hide (whole_yes w n cap A (encP q) h hi hg)
  have HP := hide (fun (w1 : World) (hb : Below w.heap.size w w1) => play_any w1 n cap A q fuel p x ((h.below hb).more hb.size) hw hq hn (hx.below hb) hxs hf)
  have HPL := hide hp
  clear h hi hg hw hq hn hx hp
  go_enter Try.func40, Try.ntmps40
  go_wp2_with fail
  refine HW.out.mono ?_; rintro e w1 ⟨rfl, hb1⟩
  go_wp2_with fail
  refine (HP.out w1 hb1).mono ?_; rintro e w2 ⟨p2, k2, how2, rfl, hb2, hpost⟩
  have hb12 := hb1.trans (hb2.mono hb1.size)
  have hhow : ((how2 : Int) != 0) = true := by
    have := HPL.out
    cases hpl : play q fuel 0 (first x) with
    | ended y j => exact absurd hpl (this y j)
    | going j => rw [hpl] at hpost; obtain ⟨rfl, _⟩ := hpost; rfl
    | large j => rw [hpl] at hpost; obtain ⟨rfl, _⟩ := hpost; rfl
  have HPO := hide hpost
  clear hpost
  go_wp2
  go_ret
  exact ⟨rfl, hb12⟩
end Go.Proofs.Ytgbieakahgkkpaa
