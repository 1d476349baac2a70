import Derived.Test.YtgbieakahgkkpaaTopE
import Derived.Test.YtgbieakahgkkpaaTopG
import Derived.WalkKit
import Derived.WalkSpells
import Derived.WalkLawsBesides
import Derived.Outline
import Derived.KernelRfl
namespace Go.Proofs.Ytgbieakahgkkpaa
open Go.RowKit

theorem below_drewN {B : Nat} {a w : World} (h : Below B a w) (k : Nat) : Below B a (w.drewN k) := ⟨h.os, h.tape, h.output, h.size, h.block⟩

theorem whole_yes (w : World) (n cap : Nat) (A : Option Addr) (p : List Ins) (h : PMem w w.heap.size A n p) (hi : ∀ x ∈ p, x.I64) (hg : goodP p 4000 2000000) :
    Calls Try.prog 42 #[.slice A n cap] w fun e w' => e = .returned (.bool true) ∧ Below w.heap.size w w' := by
  have HC := hide (good_any w n cap A p 4000 2000000 (by omega) (by omega) h hi)
  clear h
  go_enter Try.func42, Try.ntmps42
  go_wp2_with fail
  refine HC.out.mono ?_; rintro e w1 ⟨b, rfl, hb, hbel⟩
  obtain rfl := hb.2 hg
  go_wp2
  go_ret
  exact ⟨rfl, hbel⟩

/-- A small program. -/
def smallP (p : List Ins) : Prop := goodP p 60 2000 ∧ regsMax p + 1 ≤ 28
theorem good_regs {p : List Ins} {m c : Nat} (h : goodP p m c) : 0 ≤ regsMax p ∧ regsMax p ≤ 31 := by
  obtain ⟨q, rfl, hw, _⟩ := goodP_iff.1 h
  rw [regsMax_enc]
  have := mostReg_lt hw
  omega
/-- A row of programs in memory, of whatever length. -/
def FVs (w : World) (B g : Nat) (l : List PV) : Prop := g < B ∧ ∀ (i : Nat) (v : PV), l[i]? = some v → w.cell? ⟨g, i, none⟩ = some v.val ∧ PMem w B v.A v.n v.p ∧ ∀ x ∈ v.p, x.I64
theorem FVs.below {w w' : World} {B g : Nat} {l : List PV} (h : FVs w B g l) (hb : Below B w w') : FVs w' B g l :=
  ⟨h.1, fun i v hv => by
    obtain ⟨h1, h2, h3⟩ := h.2 i v hv
    exact ⟨by rw [hb.cell (p := ⟨g, i, none⟩) h.1]; exact h1, h2.below hb, h3⟩⟩

set_option maxHeartbeats 1000000 in
set_option maxRecDepth 100000 in
/-- few: whether all programs are small. -/
theorem few_any (w : World) (g m cap : Nat) (l : List PV) (hl : l.length = m) (hm : m ≤ 10) (h : FVs w w.heap.size g l) :
    Calls Try.prog 35 #[.slice (some ⟨g, 0, none⟩) m cap] w fun e w' => ∃ b, e = .returned (.bool b) ∧ (b = true ↔ ∀ (i : Nat) (v : PV), l[i]? = some v → smallP v.p) ∧ Below w.heap.size w w' := by
  have hgl := h.1
  have HL := hide hl
  clear hl
  go_enter Try.func35, Try.ntmps35
  go_wp2
  go_loopw [3] (fun i wr => ∃ k : Nat, k ≤ m ∧ i = .int .i64 k ∧ (∀ (j : Nat) (v : PV), j < k → l[j]? = some v → smallP v.p) ∧ Below w.heap.size w wr) (fun i _ => m - (intOf i).toNat)
  case atStart => exact ⟨0, Nat.zero_le _, rfl, fun j v hj => by omega, Below.refl _ _⟩
  case round =>
    obtain ⟨k, hk, rfl, hall, hbel⟩ := hrel
    have HA := hide hall
    clear hall
    have hsz := hbel.size
    by_cases hlt : k < m
    · obtain ⟨v, hvk⟩ : ∃ v, l[k]? = some v := ⟨_, List.getElem?_eq_getElem (by rw [HL.out]; exact hlt)⟩
      obtain ⟨hc, hp, hi⟩ := (h.below hbel).2 k v hvk
      have HV := hide hvk
      clear hvk h
      obtain ⟨A, n, c, p⟩ := v
      simp only [PV.val] at hc hp hi
      have HG := hide (good_any wr n c A p 60 2000 (by omega) (by omega) (hp.more hsz) hi)
      have HR := hide (fun (hh : goodP p 60 2000) (w1 : World) (hb1 : Below wr.heap.size wr w1) => regs_any w1 w.heap.size n c A p (hp.below (hb1.mono hsz)) (by have := hh.1; have := hp.1; omega) (by have := good_regs hh; omega))
      clear hp
      go_wp2_with fail
      refine HG.out.mono ?_; rintro e w1 ⟨b, rfl, hb, hb1⟩
      have HB := hide hb
      clear hb
      cases b with
      | false =>
        go_wp2
        go_ret
        exact ⟨false, rfl, ⟨fun h0 => by simp at h0, fun h' => by have := HB.out.2 (h' k _ HV.out).1; simp at this⟩, hbel.trans (hb1.mono hsz)⟩
      | true =>
        have hg := HB.out.1 rfl
        obtain ⟨R, hR⟩ : ∃ R, R = regsMax p + 1 := ⟨_, rfl⟩
        have HR1 := hide (HR.out hg w1 hb1)
        rw [← hR] at HR1
        have hc1 : w1.cell? ⟨g, k, none⟩ = some (.slice A n c) := by rw [hb1.cell (p := ⟨g, k, none⟩) (Nat.lt_of_lt_of_le hgl hsz)]; exact hc
        have HRR := hide hR
        have HGG := hide hg
        clear hR hg HR
        by_cases h28 : R ≤ 28
        · go_wp2_with fail
          refine HR1.out.mono ?_; rintro e w2 ⟨rfl, k2, rfl⟩
          go_wp2
          go_roundw
          case rel => exact ⟨k + 1, by omega, by go_num, fun j v hj hv => by
            by_cases hjk : j < k
            · exact HA.out j v hjk hv
            · have : j = k := by omega
              subst this
              rw [HV.out] at hv
              obtain rfl := Option.some.inj hv
              exact ⟨HGG.out, by have := HRR.out; simp only; omega⟩, below_drewN (hbel.trans (hb1.mono hsz)) k2⟩
          case measure => simp [intOf]; omega
        · go_wp2_with fail
          refine HR1.out.mono ?_; rintro e w2 ⟨rfl, k2, rfl⟩
          go_wp2
          go_ret
          exact ⟨false, rfl, ⟨fun h0 => by simp at h0, fun h' => by have := (h' k _ HV.out).2; have := HRR.out; simp only at *; omega⟩, below_drewN (hbel.trans (hb1.mono hsz)) k2⟩
    · have hkm : m = k := by omega
      subst hkm
      clear h
      go_wp2
      go_ret
      exact ⟨true, rfl, ⟨fun _ i v hv => HA.out i v (by have := (List.getElem?_eq_some_iff.1 hv).1; rw [HL.out] at this; exact this) hv, fun _ => rfl⟩, hbel⟩
end Go.Proofs.Ytgbieakahgkkpaa
