import Derived.Test.YtgbieakahgkkpaaProg
import Derived.Test.YtgbieakahgkkpaaPMem
import Derived.Test.YtgbieakahgkkpaaBuildA
import Derived.WalkKit
import Derived.WalkSpells
import Derived.WalkLawsBesides
import Derived.Outline
import Derived.KernelRfl
import Derived.Lib.AppendZeros
namespace Go.Proofs.Ytgbieakahgkkpaa
open Go.RowKit

def GrowPost (w : World) (e : Ending) (w' : World) : Prop := ∃ v, e = .returned v ∧ w'.ownsRow w.heap.size 41 5 v 0 [] ∧ Below w.heap.size w w'
set_option maxRecDepth 100000 in
/-- slices.Grow of nil. -/
theorem sgrow_any (w : World) (n : Nat) (hn : n ≤ 100000) : Calls Try.prog 148 #[.slice none 0 0, .int .i64 n] w (GrowPost w) := by
  obtain ⟨i0, hi0, hz0, hz1, hz2⟩ := info_parts info41
  by_cases h0 : n = 0
  · subst h0
    go_enter Try.func148, Try.ntmps148
    go_wp2
    go_ret
    exact ⟨_, rfl, World.ownsRow_nil _ _ _ _, Below.refl _ _⟩
  · have hpos : (0 : Int) < (n : Int) := by omega
    have hd : decide ((n : Int) < 0) = false := decide_eq_false (by omega)
    have hr := fun ty => Lib.run_append_nil_zeros (P := Try.prog) w 23 3 ty 41 i0 _ .i64 .i64 Try.underlying23 Try.underlying3 hi0 hz0 n (by omega) (by omega) (by omega) (by rw [hz2]; omega)
    obtain ⟨c, hc⟩ : ∃ c, c = grownCap w n 0 41 := ⟨_, rfl⟩
    rw [← hc] at hr
    have hcn : n ≤ c := by rw [hc]; exact grownCap_ge w n 0 41
    have hcm : c ≤ maxLen := by rw [hc]; exact grownCap_le_maxLen w n 0 41 (by unfold maxLen; omega)
    have HR := hide hr
    clear hr hc
    have hcn' : (0 : Int) ≤ (c : Int) := by omega
    go_enter Try.func148, Try.ntmps148
    go_wp2_with ((at_builtin; refine Lib.wpList_append_run _ rfl _ _ _ _ rfl _ _ rfl rfl _ _ (HR.out _) ?_))
    go_ret
    refine ⟨_, rfl, ?_, (Below.refl _ _).drew.alloc (by simp) _⟩
    refine World.ownsRow_made w.drew _ c (by simp) hcm ?_
    simp only [Array.size_append, size_zeroCells]
    show n * 5 + (c - n) * 5 = c * 5
    omega

/-- A program as a slice's value. -/
structure PV where
  A : Option Addr
  n : Nat
  cap : Nat
  p : List Ins
def PV.val (v : PV) : Value := .slice v.A v.n v.cap
/-- A row of programs in memory. -/
def PVs (w : World) (B g : Nat) (l : List PV) : Prop := g < B ∧ ∀ (i : Nat) (v : PV), l[i]? = some v → w.cell? ⟨g, i, none⟩ = some v.val ∧ PMem w B v.A v.n v.p ∧ v.n ≤ 4000
theorem PVs.below {w w' : World} {B g : Nat} {l : List PV} (h : PVs w B g l) (hb : Below B w w') : PVs w' B g l :=
  ⟨h.1, fun i v hv => by
    obtain ⟨h1, h2, h3⟩ := h.2 i v hv
    exact ⟨by rw [hb.cell (p := ⟨g, i, none⟩) h.1]; exact h1, h2.below hb, h3⟩⟩
def sumN (l : List PV) : Nat := (l.map PV.n).sum
def allP (l : List PV) : List Ins := l.flatMap PV.p
theorem sumN_take_succ {l : List PV} {k : Nat} {v : PV} (h : l[k]? = some v) : sumN (l.take (k + 1)) = sumN (l.take k) + v.n := by
  rw [List.take_add_one, h]; simp [sumN]
theorem allP_take_succ {l : List PV} {k : Nat} {v : PV} (h : l[k]? = some v) : allP (l.take (k + 1)) = allP (l.take k) ++ v.p := by
  rw [List.take_add_one, h]; simp [allP]
theorem sumN_take_le {l : List PV} (b : Nat) (hl : ∀ (i : Nat) (v : PV), l[i]? = some v → v.n ≤ b) (k : Nat) : sumN (l.take k) ≤ k * b := by
  induction k with
  | zero => simp [sumN]
  | succ k ih =>
    have e : (k + 1) * b = k * b + b := Nat.succ_mul k b
    cases h : l[k]? with
    | none => rw [List.take_add_one, h, Option.toList_none, List.append_nil]; omega
    | some v => rw [sumN_take_succ h]; have := hl k v h; omega
theorem allP_len {w : World} {B g : Nat} {l : List PV} (h : PVs w B g l) : ∀ k, (allP (l.take k)).length = sumN (l.take k)
  | 0 => by simp [sumN, allP]
  | k + 1 => by
    have ih := allP_len h k
    cases hv : l[k]? with
    | none => rw [List.take_add_one, hv]; simpa using ih
    | some v =>
      rw [sumN_take_succ hv, allP_take_succ hv, List.length_append, ih, ← (h.2 k v hv).2.1.1]

set_option maxHeartbeats 1000000 in
set_option maxRecDepth 100000 in
/-- slices.Concat of programs. -/
theorem concat_any (w : World) (g m cap : Nat) (l : List PV) (hl : l.length = m) (hm : m ≤ 10) (h : PVs w w.heap.size g l) :
    Calls Try.prog 110 #[.slice (some ⟨g, 0, none⟩) m cap] w (SliceOut (allP l) w) := by
  obtain ⟨i0, hi0, hz0, hz1, hz2⟩ := info_parts info41
  have HL := hide hl
  clear hl
  have hle := sumN_take_le 4000 (fun i v hv => (h.2 i v hv).2.2)
  go_enter Try.func110, Try.ntmps110
  go_wp2
  go_loop [3, 11] (fun s i => ∃ k : Nat, k ≤ m ∧ i = .int .i64 k ∧ s = .int .i64 (sumN (l.take k) : Nat)) (fun _ i => m - (intOf i).toNat)
  case atStart => exact ⟨0, Nat.zero_le _, rfl, by simp [sumN]⟩
  case round =>
    obtain ⟨k, hk, rfl, rfl⟩ := hrel
    obtain ⟨S, hS⟩ : ∃ S, S = sumN (l.take k) := ⟨_, rfl⟩
    rw [← hS]
    have hSle : S ≤ 40000 := by rw [hS]; have := hle k; omega
    have HS := hide hS
    clear hS
    by_cases hlt : k < m
    · obtain ⟨v, hv⟩ : ∃ v, l[k]? = some v := ⟨_, List.getElem?_eq_getElem (by rw [HL.out]; exact hlt)⟩
      obtain ⟨hc, _, hvn⟩ := h.2 k v hv
      have HV := hide hv
      have HLE := hide hle
      have H := hide h
      clear hv hle h
      obtain ⟨A, n, c, p⟩ := v
      simp only [PV.val] at hc hvn
      have hd : decide ((S : Int) + (n : Int) < 0) = false := decide_eq_false (by omega)
      go_wp2
      go_round
      case rel => exact ⟨k + 1, by omega, by go_num, by rw [sumN_take_succ HV.out, ← HS.out]; simp⟩
      case measure => simp [intOf]; omega
    · have hkm : m = k := by omega
      subst hkm
      have HLE := hide hle
      clear hle
      go_wp2_with fail
      refine (sgrow_any w S (by omega)).mono ?_; rintro e w1 ⟨v1, rfl, hown0, hb0⟩
      obtain ⟨A1, c1, rfl, _⟩ := own_shape hown0
      have h1 := h.below hb0
      go_wp2
      go_loopw [6, 27] (fun o i wr => ∃ k N : Nat, k ≤ m ∧ i = .int .i64 k ∧ N = (allP (l.take k)).length ∧ wr.ownsRow w.heap.size 41 5 o N (progCells (allP (l.take k))) ∧ Below w.heap.size w wr) (fun _ i _ => m - (intOf i).toNat)
      case atStart => exact ⟨0, 0, Nat.zero_le _, rfl, by simp [allP], by simpa [allP, progCells] using hown0, hb0⟩
      case round =>
        clear hown0 hb0 h1
        obtain ⟨k, N, hk, rfl, hN, hown, hbel⟩ := hrel
        have hsz := hbel.size
        have hNle : N ≤ 40000 := by rw [hN, allP_len h k]; have := HLE.out k; omega
        have HN := hide hN
        clear hN
        by_cases hlt2 : k < m
        · obtain ⟨v, hv⟩ : ∃ v, l[k]? = some v := ⟨_, List.getElem?_eq_getElem (by rw [HL.out]; exact hlt2)⟩
          obtain ⟨hc, hp, hvn⟩ := (h.below hbel).2 k v hv
          have HV := hide hv
          have H := hide h
          clear hv h
          obtain ⟨A, n, c, p⟩ := v
          simp only [PV.val] at hc hvn hp
          have hpn := hide hp.1
          have hpr := hp.2
          clear hp
          go_wp2_with ((at_builtin; refine wpList_append_any _ rfl _ _ _ rfl w.heap.size 41 i0 (.agg #[.int .i64 0, .int .i64 0, .int .i64 0, .int .i64 0, .string ByteArray.empty]) 5 48 Try.underlying23 hi0 hz0 hz1 hz2 rfl (by omega) _ _ _ rfl hown w.heap.size A n c (progCells p) rfl hpr (progCells_one p) (by unfold maxLen; omega) (by omega) hsz ?_; intro v1 w1 hown1 hgrow hat))
          go_wp2
          go_roundw
          case rel =>
            refine ⟨k + 1, N + n, by omega, by go_num, by rw [allP_take_succ HV.out, List.length_append, ← HN.out, hpn.out], ?_, hbel.grown hgrow hsz (fun j hj => (hown.lt j hj).1)⟩
            rw [allP_take_succ HV.out, progCells_append]
            exact hown1
          case measure => simp [intOf]; omega
        · have hkm : k = m := by omega
          have hl : l.take k = l := by rw [hkm, ← HL.out, List.take_length]
          have hNl : N = (allP l).length := by rw [HN.out, hl]
          rw [hl] at hown
          have HNL := hide hNl
          clear h hl hNl hkm
          obtain ⟨A2, c2, rfl, _⟩ := own_shape hown
          go_wp2
          go_ret
          refine ⟨A2, c2, by rw [← HNL.out]; rfl, ?_, hbel⟩
          rw [← HNL.out]
          exact hown
end Go.Proofs.Ytgbieakahgkkpaa
