import Derived.Test.YtgbieakahgkkpaaProg
import Derived.Test.YtgbieakahgkkpaaPMem
import Derived.Test.YtgbieakahgkkpaaBuildB
import Derived.WalkKit
import Derived.WalkSpells
import Derived.WalkLawsBesides
import Derived.Outline
import Derived.KernelRfl
namespace Go.Proofs.Ytgbieakahgkkpaa
open Go.RowKit

/-- done: a program, unless it is too large. -/
theorem done_yes (w : World) (n cap : Nat) (A : Option Addr) (p : List Ins) (h : PMem w w.heap.size A n p) (hi : ∀ x ∈ p, x.I64) (hg : goodP p 4000 2000000) :
    Calls Try.prog 111 #[.slice A n cap] w fun e w' => e = .returned (.tuple #[.slice A n cap, .int .i64 0]) ∧ Below w.heap.size w w' := by
  go_enter Try.func111, Try.ntmps111
  go_wp2_with fail
  refine (cvalid_yes w n cap A p h hi hg).mono ?_; rintro e w' ⟨rfl, hb⟩
  go_wp2
  go_ret2
  exact ⟨rfl, hb⟩
theorem done_no (w : World) (n cap : Nat) (A : Option Addr) (p : List Ins) (h : PMem w w.heap.size A n p) (hi : ∀ x ∈ p, x.I64) (hg : ¬ goodP p 4000 2000000) :
    Calls Try.prog 111 #[.slice A n cap] w fun e w' => e = .returned (.tuple #[.slice none 0 0, .int .i64 3]) ∧ Below w.heap.size w w' := by
  go_enter Try.func111, Try.ntmps111
  go_wp2_with fail
  refine (cvalid_no w n cap A p h hi hg).mono ?_; rintro e w' ⟨rfl, hb⟩
  go_wp2
  go_ret2
  exact ⟨rfl, hb⟩

def mostRegs (l : List PV) : Int := l.foldl (fun m v => max m (regsMax v.p + 1)) 1
theorem mostRegs_take_succ {l : List PV} {k : Nat} {v : PV} (h : l[k]? = some v) : mostRegs (l.take (k + 1)) = max (mostRegs (l.take k)) (regsMax v.p + 1) := by
  rw [List.take_add_one, h]; simp [mostRegs, List.foldl_append]
theorem mostRegs_bounds {l : List PV} (b : Int) (hb1 : 1 ≤ b) (hb : ∀ (i : Nat) (v : PV), l[i]? = some v → regsMax v.p + 1 ≤ b) (k : Nat) : 1 ≤ mostRegs (l.take k) ∧ mostRegs (l.take k) ≤ b := by
  induction k with
  | zero => simp [mostRegs]; exact hb1
  | succ k ih =>
    cases h : l[k]? with
    | none => rw [List.take_add_one, h, Option.toList_none, List.append_nil]; exact ih
    | some v => rw [mostRegs_take_succ h]; have := hb k v h; omega

set_option maxHeartbeats 1000000 in
set_option maxRecDepth 100000 in
/-- check: how many registers valid programs use. -/
theorem check_any (w : World) (g m cap : Nat) (l : List PV) (hl : l.length = m) (hm : m ≤ 10) (h : PVs w w.heap.size g l)
    (hv : ∀ (i : Nat) (v : PV), l[i]? = some v → (∀ x ∈ v.p, x.I64) ∧ goodP v.p 4000 2000000 ∧ regsMax v.p + 1 ≤ 28) :
    Calls Try.prog 106 #[.slice (some ⟨g, 0, none⟩) m cap] w fun e w' => e = .returned (.tuple #[.int .i64 (mostRegs l), .int .i64 0]) ∧ Below w.heap.size w w' := by
  have hbd := mostRegs_bounds (l := l) 28 (by omega) (fun i v h => (hv i v h).2.2)
  have HL := hide hl
  clear hl
  go_enter Try.func106, Try.ntmps106
  go_wp2
  go_loopw [4, 11] (fun s i wr => ∃ k : Nat, k ≤ m ∧ i = .int .i64 k ∧ s = .int .i64 (mostRegs (l.take k)) ∧ Below w.heap.size w wr) (fun _ i _ => m - (intOf i).toNat)
  case atStart => exact ⟨0, Nat.zero_le _, rfl, by simp [mostRegs], Below.refl _ _⟩
  case round =>
    obtain ⟨k, hk, rfl, rfl, hbel⟩ := hrel
    obtain ⟨S, hS⟩ : ∃ S, S = mostRegs (l.take k) := ⟨_, rfl⟩
    rw [← hS]
    have hS1 : 1 ≤ S := by rw [hS]; exact (hbd k).1
    have hS2 : S ≤ 28 := by rw [hS]; exact (hbd k).2
    have HS := hide hS
    have HBD := hide hbd
    clear hS hbd
    have hsz := hbel.size
    by_cases hlt : k < m
    · obtain ⟨v, hvk⟩ : ∃ v, l[k]? = some v := ⟨_, List.getElem?_eq_getElem (by rw [HL.out]; exact hlt)⟩
      obtain ⟨hc, hp, hvn⟩ := (h.below hbel).2 k v hvk
      obtain ⟨hi, hg, hr⟩ := hv k v hvk
      have HV := hide hvk
      clear hvk h hv
      obtain ⟨A, n, c, p⟩ := v
      simp only [PV.val] at hc hvn hp hi hg hr
      have hregs := cregs_yes wr n c A p (hp.more hsz) hi hg (by omega)
      obtain ⟨R, hR⟩ : ∃ R, R = regsMax p + 1 := ⟨_, rfl⟩
      rw [← hR] at hregs hr
      obtain ⟨M, hM⟩ : ∃ M, (if S < R then R else S) = M := ⟨_, rfl⟩
      have HR := hide hR
      have HC := hide hregs
      clear hR hregs hg hi hp
      go_wp2_with fail
      refine HC.out.mono ?_; rintro e w1 ⟨rfl, hb1⟩
      go_wp2
      go_roundw
      case rel => exact ⟨k + 1, by omega, by go_num, by rw [mostRegs_take_succ HV.out, ← HS.out, ← hM]; simp only; rw [← HR.out]; congr 1; split <;> omega, hbel.trans (hb1.mono hsz)⟩
      case measure => simp [intOf]; omega
    · have hkm : m = k := by omega
      subst hkm
      have e : mostRegs l = S := by rw [HS.out, ← HL.out, List.take_length]
      have E := hide e
      clear e h hv
      go_wp2
      go_ret2
      exact ⟨by rw [E.out]; rfl, hbel⟩
end Go.Proofs.Ytgbieakahgkkpaa
