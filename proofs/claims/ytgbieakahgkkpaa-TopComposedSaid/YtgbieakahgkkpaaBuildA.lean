import Derived.Test.YtgbieakahgkkpaaProg
import Derived.Test.YtgbieakahgkkpaaPMem
import Derived.Test.YtgbieakahgkkpaaCodeD
import Derived.WalkKit
import Derived.WalkSpells
import Derived.WalkLawsBesides
import Derived.Outline
import Derived.KernelRfl
namespace Go.Proofs.Ytgbieakahgkkpaa
open Go.RowKit

theorem info41 : (Try.prog.info? 41).map (fun i => (i.zero, i.size, i.bytes)) = some (some (.agg #[.int .i64 0, .int .i64 0, .int .i64 0, .int .i64 0, .string ByteArray.empty]), 5, 48) := by kernel_rfl

/-- What is handed back is a row of the call's own that reads as a program. -/
def SliceOut (p : List Ins) (w : World) (e : Ending) (w' : World) : Prop :=
  ∃ A cap, e = .returned (.slice A p.length cap) ∧ w'.ownsRow w.heap.size 41 5 (.slice A p.length cap) p.length (progCells p) ∧ Below w.heap.size w w'

theorem move_any (w : World) (a b : Int) : Calls Try.prog 107 #[.int .i64 a, .int .i64 b] w fun e w' => e = .returned (.agg #[.int .i64 1, .int .i64 a, .int .i64 b, .int .i64 0, .string ByteArray.empty]) ∧ Below w.heap.size w w' := by
  go_enter Try.func107, Try.ntmps107
  go_wp2
  exact bodyPost_ret (v := .agg #[.int .i64 1, .int .i64 a, .int .i64 b, .int .i64 0, .string ByteArray.empty]) (by simp [results, Try.results107, go_sem]; rfl) rfl ⟨rfl, (Below.refl _ _).alloc (Nat.le_refl _) _⟩

theorem leap_any (w : World) (a b : Int) : Calls Try.prog 109 #[.int .i64 a, .int .i64 b] w (SliceOut [⟨0, a, 0, 0, (T.pair .nil .nil).str⟩, ⟨5, a, b, 0, ByteArray.empty⟩] w) := by
  go_enter Try.func109, Try.ntmps109
  go_wp2
  go_ret
  refine ⟨_, 2, rfl, ?_, (Below.refl _ _).alloc (Nat.le_refl _) _⟩
  exact ⟨rfl, .inr ⟨w.heap.size, 2, _, rfl, Nat.le_refl _, heap_alloc_new w _, Nat.le_refl _, by decide, rfl, rfl⟩⟩

/-- The cleaning: registers from 1 on become nil. -/
def cleanIns (n : Nat) : List Ins := (List.range (n - 1)).map fun (i : Nat) => ⟨0, ((i : Int) + 1), 0, 0, T.nil.str⟩
theorem cleanIns_succ {k : Nat} (hk : 1 ≤ k) : cleanIns (k + 1) = cleanIns k ++ [⟨0, k, 0, 0, T.nil.str⟩] := by
  obtain ⟨j, rfl⟩ : ∃ j, k = j + 1 := ⟨k - 1, by omega⟩
  simp [cleanIns, List.range_succ]
theorem cleanIns_length (n : Nat) : (cleanIns n).length = n - 1 := by simp [cleanIns]

set_option maxHeartbeats 1000000 in
set_option maxRecDepth 100000 in
/-- fresh: a program behind its cleaning. -/
theorem fresh_any (w : World) (n cap : Nat) (A : Option Addr) (p : List Ins) (h : PMem w w.heap.size A n p) (hi : ∀ x ∈ p, x.I64) (hg : goodP p 4000 2000000) (m : Nat) (hm : regsMax p + 1 = m) (hr : m ≤ 1000) :
    Calls Try.prog 108 #[.slice A n cap] w (SliceOut (cleanIns m ++ p) w) := by
  obtain ⟨i0, hi0, hz0, hz1, hz2⟩ := info_parts info41
  have hn : n ≤ 4000 := by have := hg.1; have := h.1; omega
  go_enter Try.func108, Try.ntmps108
  go_wp2_with fail
  have hregs := cregs_yes w n cap A p h hi hg (by omega)
  rw [hm] at hregs
  have hm1 : 1 ≤ m := by have := regsMax_nonneg p p.length; rw [List.take_length] at this; unfold regsMax at hm; omega
  clear hm
  refine hregs.mono ?_; rintro e w0 ⟨rfl, hb0⟩
  clear hregs hi hg
  go_wp2
  go_loopw [5, 6] (fun o r wr => ∃ k : Nat, 1 ≤ k ∧ k ≤ m ∧ r = .int .i64 k ∧ wr.ownsRow w.heap.size 41 5 o (k - 1) (progCells (cleanIns k)) ∧ Below w.heap.size w wr) (fun _ r _ => m - (intOf r).toNat)
  case atStart => exact ⟨1, Nat.le_refl _, hm1, rfl, World.ownsRow_nil _ _ _ _, hb0⟩
  case round =>
    obtain ⟨k, hk1, hkm, rfl, hown, hbel⟩ := hrel
    have hsz := hbel.size
    by_cases hlt : k < m
    · go_wp2_with ((at_builtin; refine wpList_append_lies _ rfl _ _ _ rfl w.heap.size 41 i0 (.agg #[.int .i64 0, .int .i64 0, .int .i64 0, .int .i64 0, .string ByteArray.empty]) 5 48 Try.underlying23 hi0 hz0 hz1 hz2 rfl (by omega) _ _ _ rfl (hown.alloc _) ⟨wr.heap.size, 0, none⟩ 1 1 [.int .i64 0, .int .i64 k, .int .i64 0, .int .i64 0, .string T.nil.str] rfl rfl (World.news_of_block (cs := #[.int .i64 0, .int .i64 k, .int .i64 0, .int .i64 0, .string T.nil.str]) (t := 41) (fr := (0, 0)) (heap_alloc_new wr _)) (by simp [Value.oneCell']) (by omega) (by unfold maxLen; omega) (by omega) (by simp; omega) _ rfl ?_; intro g c1 w1 hown1 hgrow hat hlt1))
      go_wp2
      go_roundw
      case rel =>
        refine ⟨k + 1, by omega, by omega, by go_num, ?_, (hbel.alloc hsz _).grown hgrow (by simp; omega) (fun j hj => (hown.lt j hj).1)⟩
        rw [cleanIns_succ hk1, progCells_append]
        have e2 : k + 1 - 1 = k := by omega
        have e3 : k - 1 + 1 = k := by omega
        rw [e3] at hown1
        rw [e2]
        exact hown1
      case measure => simp [intOf]; omega
    · have hkm' : k = m := by omega
      have hp := h.2.below hbel
      have HKM := hide hkm'
      have H1 := hide h.1
      clear hkm' h
      go_wp2_with ((at_builtin; refine wpList_append_any _ rfl _ _ _ rfl w.heap.size 41 i0 (.agg #[.int .i64 0, .int .i64 0, .int .i64 0, .int .i64 0, .string ByteArray.empty]) 5 48 Try.underlying23 hi0 hz0 hz1 hz2 rfl (by omega) _ _ _ rfl hown w.heap.size A n cap (progCells p) rfl hp (progCells_one p) (by unfold maxLen; omega) (by omega) hsz ?_; intro v1 w1 hown1 hgrow hat))
      obtain ⟨A1, cap1, rfl, _⟩ := own_shape hown1
      go_wp2
      go_ret
      have e : (cleanIns m ++ p).length = k - 1 + n := by rw [List.length_append, cleanIns_length, HKM.out, H1.out]
      refine ⟨A1, cap1, by rw [e]; rfl, ?_, hbel.grown hgrow hsz (fun j hj => (hown.lt j hj).1)⟩
      rw [e, progCells_append, ← HKM.out]
      exact hown1
end Go.Proofs.Ytgbieakahgkkpaa
