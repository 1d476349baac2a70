import Derived.Test.YtgbieakahgkkpaaProg
import Derived.Test.YtgbieakahgkkpaaPMem
import Derived.Test.YtgbieakahgkkpaaBuildD
import Derived.WalkKit
import Derived.WalkSpells
import Derived.WalkLawsBesides
import Derived.Outline
import Derived.KernelRfl
namespace Go.Proofs.Ytgbieakahgkkpaa
open Go.RowKit

theorem row2 (W : World) (o1 a1 b1 c1 o2 a2 b2 c2 : Int) (t1 t2 : ByteArray) : (W.alloc (.cells #[.int .i64 o1, .int .i64 a1, .int .i64 b1, .int .i64 c1, .string t1, .int .i64 o2, .int .i64 a2, .int .i64 b2, .int .i64 c2, .string t2] 41)).ownsRow W.heap.size 41 5 (.slice (some ⟨W.heap.size, 0, none⟩) 2 2) 2 (progCells [⟨o1, a1, b1, c1, t1⟩, ⟨o2, a2, b2, c2, t2⟩]) :=
  ⟨rfl, .inr ⟨W.heap.size, 2, _, rfl, Nat.le_refl _, heap_alloc_new W _, Nat.le_refl _, by decide, rfl, rfl⟩⟩

theorem PVs.four {w : World} {a b c d : PV} (ha : PMem w w.heap.size a.A a.n a.p) (hb : PMem w w.heap.size b.A b.n b.p) (hc : PMem w w.heap.size c.A c.n c.p) (hd : PMem w w.heap.size d.A d.n d.p) (h1 : a.n ≤ 4000) (h2 : b.n ≤ 4000) (h3 : c.n ≤ 4000) (h4 : d.n ≤ 4000) :
    PVs (w.alloc (.cells #[a.val, b.val, c.val, d.val] 23)) (w.alloc (.cells #[a.val, b.val, c.val, d.val] 23)).heap.size w.heap.size [a, b, c, d] := by
  have hB := Blk.new w 23 #[a.val, b.val, c.val, d.val]
  refine ⟨by simp, fun i v hv => ?_⟩
  match i, hv with
  | 0, hv => simp at hv; subst hv; exact ⟨by rw [hB.cell]; rfl, (ha.alloc (Nat.le_refl _) _).more (by simp), h1⟩
  | 1, hv => simp at hv; subst hv; exact ⟨by rw [hB.cell]; rfl, (hb.alloc (Nat.le_refl _) _).more (by simp), h2⟩
  | 2, hv => simp at hv; subst hv; exact ⟨by rw [hB.cell]; rfl, (hc.alloc (Nat.le_refl _) _).more (by simp), h3⟩
  | 3, hv => simp at hv; subst hv; exact ⟨by rw [hB.cell]; rfl, (hd.alloc (Nat.le_refl _) _).more (by simp), h4⟩
theorem PVs.five {w : World} {a b c d f : PV} (ha : PMem w w.heap.size a.A a.n a.p) (hb : PMem w w.heap.size b.A b.n b.p) (hc : PMem w w.heap.size c.A c.n c.p) (hd : PMem w w.heap.size d.A d.n d.p) (hf : PMem w w.heap.size f.A f.n f.p) (h1 : a.n ≤ 4000) (h2 : b.n ≤ 4000) (h3 : c.n ≤ 4000) (h4 : d.n ≤ 4000) (h5 : f.n ≤ 4000) :
    PVs (w.alloc (.cells #[a.val, b.val, c.val, d.val, f.val] 23)) (w.alloc (.cells #[a.val, b.val, c.val, d.val, f.val] 23)).heap.size w.heap.size [a, b, c, d, f] := by
  have hB := Blk.new w 23 #[a.val, b.val, c.val, d.val, f.val]
  refine ⟨by simp, fun i v hv => ?_⟩
  match i, hv with
  | 0, hv => simp at hv; subst hv; exact ⟨by rw [hB.cell]; rfl, (ha.alloc (Nat.le_refl _) _).more (by simp), h1⟩
  | 1, hv => simp at hv; subst hv; exact ⟨by rw [hB.cell]; rfl, (hb.alloc (Nat.le_refl _) _).more (by simp), h2⟩
  | 2, hv => simp at hv; subst hv; exact ⟨by rw [hB.cell]; rfl, (hc.alloc (Nat.le_refl _) _).more (by simp), h3⟩
  | 3, hv => simp at hv; subst hv; exact ⟨by rw [hB.cell]; rfl, (hd.alloc (Nat.le_refl _) _).more (by simp), h4⟩
  | 4, hv => simp at hv; subst hv; exact ⟨by rw [hB.cell]; rfl, (hf.alloc (Nat.le_refl _) _).more (by simp), h5⟩

def consIns (a b c : Int) : Ins := ⟨2, a, b, c, ByteArray.empty⟩
def pairOut (n mq : Nat) (p q : List Ins) : List Ins := [moveIns n 0] ++ (p ++ ([moveIns ((n : Int) + 1) 0, moveIns 0 n] ++ (cleanIns mq ++ q)))
def pairIns (n mq : Nat) (p q : List Ins) : List Ins := pairOut n mq p q ++ [consIns 0 ((n : Int) + 1) 0]

set_option maxHeartbeats 4000000 in
set_option maxRecDepth 100000 in
/-- Pair of small valid programs. -/
theorem bpair_any (w : World) (pA qA : Option Addr) (pn pc qn qc : Nat) (pp qp : List Ins) (hp : PMem w w.heap.size pA pn pp) (hq : PMem w w.heap.size qA qn qp) (hpi : ∀ x ∈ pp, x.I64) (hqi : ∀ x ∈ qp, x.I64) (hpg : goodP pp 60 2000) (hqg : goodP qp 60 2000)
    (mp mq n : Nat) (hmp : regsMax pp + 1 = mp) (hmq : regsMax qp + 1 = mq) (hn : n = max mp mq) (hn28 : n ≤ 28)
    (hI : ∀ x ∈ pairIns n mq pp qp, x.I64) (hG : goodP (pairIns n mq pp qp) 4000 2000000) :
    Calls Try.prog 61 #[.slice pA pn pc, .slice qA qn qc] w fun e w' => ∃ A N cap, e = .returned (.tuple #[.slice A N cap, .int .i64 0]) ∧ PMem w' w'.heap.size A N (pairIns n mq pp qp) ∧ Below w.heap.size w w' := by
  obtain ⟨i0, hi0, hz0, hz1, hz2⟩ := info_parts info41
  have hpg' : goodP pp 4000 2000000 := ⟨by have := hpg.1; omega, by have := hpg.2.1; omega, hpg.2.2⟩
  have hqg' : goodP qp 4000 2000000 := ⟨by have := hqg.1; omega, by have := hqg.2.1; omega, hqg.2.2⟩
  have hpn : pn ≤ 60 := by have := hpg.1; have := hp.1; omega
  have hqn : qn ≤ 60 := by have := hqg.1; have := hq.1; omega
  have hmp1 : 1 ≤ mp := by have := regsMax_nonneg pp pp.length; rw [List.take_length] at this; unfold regsMax at hmp; omega
  have hmq1 : 1 ≤ mq := by have := regsMax_nonneg qp qp.length; rw [List.take_length] at this; unfold regsMax at hmq; omega
  have hchk := check_any _ w.heap.size 2 2 [⟨pA, pn, pc, pp⟩, ⟨qA, qn, qc, qp⟩] rfl (by omega) (PVs.two hp hq (by simp; omega) (by simp; omega)) (fun i v hv => by
    match i, hv with
    | 0, hv => simp at hv; subst hv; exact ⟨hpi, hpg', by simp only; omega⟩
    | 1, hv => simp at hv; subst hv; exact ⟨hqi, hqg', by simp only; omega⟩)
  have hmr : mostRegs [⟨pA, pn, pc, pp⟩, ⟨qA, qn, qc, qp⟩] = (n : Int) := by simp [mostRegs]; omega
  rw [hmr] at hchk
  simp only [PV.val] at hchk
  have HCHK := hide hchk
  obtain ⟨lq, hlq⟩ : ∃ lq, (cleanIns mq ++ qp).length = lq := ⟨_, rfl⟩
  have hlqb : lq ≤ 100 := by rw [← hlq, List.length_append, cleanIns_length, ← hq.1]; omega
  have HF2 : Hid (∀ W : World, PMem W W.heap.size qA qn qp → Calls Try.prog 108 #[.slice qA qn qc] W (SliceN (cleanIns mq ++ qp) lq W)) := hide (fun W hW => (fresh_any W qn qc qA qp hW hqi hqg' mq hmq (by omega)).mono fun e w' h => h.n hlq)
  have HI := hide hI
  have HG := hide hG
  have HP := hide hp
  have HQ := hide hq
  clear hchk hmr hI hG hp hq hpi hqi hpg hqg hpg' hqg' hmp hmq
  have HLQ := hide hlq
  have HN := hide hn
  clear hlq hn
  go_enter Try.func61, Try.ntmps61
  go_wp2_with fail
  refine HCHK.out.mono ?_; rintro e w1 ⟨rfl, hb1⟩
  have F1 : Below w.heap.size w w1 := ((Below.refl _ _).alloc (Nat.le_refl _) _).trans (hb1.mono (by simp))
  have s1 := F1.size
  go_wp2_with fail
  refine (move_any w1 n 0).mono ?_; rintro e w2 ⟨rfl, hb2⟩
  have F2 := F1.trans (hb2.mono s1)
  have s2 := F2.size
  have m2 := hide (PMem.of_own (p := [⟨1, n, 0, 0, ByteArray.empty⟩]) rfl (row1 w2 1 n 0 0 ByteArray.empty))
  have F2' := F2.alloc s2 (.cells #[.int .i64 1, .int .i64 n, .int .i64 0, .int .i64 0, .string ByteArray.empty] 41)
  go_wp2_with fail
  refine (move_any _ ((n : Int) + 1) 0).mono ?_; rintro e w3 ⟨rfl, hb3⟩
  have F3 := F2'.trans (hb3.mono F2'.size)
  have s3 := F3.size
  have m3 := hide ((m2.out.below hb3).more hb3.size)
  clear m2 hb2 hb1 F1 F2 F2' s1 s2
  go_wp2_with fail
  refine (move_any _ 0 n).mono ?_; rintro e w4 ⟨rfl, hb4⟩
  have F4 := F3.trans (hb4.mono s3)
  have s4 := F4.size
  have m4 := hide ((m3.out.below hb4).more hb4.size)
  have r4 := row2 w4 1 ((n : Int) + 1) 0 0 1 0 n 0 ByteArray.empty ByteArray.empty
  have k4 := hide (PMem.of_own (p := [⟨1, (n : Int) + 1, 0, 0, ByteArray.empty⟩, ⟨1, 0, n, 0, ByteArray.empty⟩]) rfl r4)
  have F4' := F4.alloc s4 (.cells #[.int .i64 1, .int .i64 ((n : Int) + 1), .int .i64 0, .int .i64 0, .string ByteArray.empty, .int .i64 1, .int .i64 0, .int .i64 n, .int .i64 0, .string ByteArray.empty] 41)
  have m4' := hide ((m4.out.alloc (Nat.le_refl _) (.cells #[.int .i64 1, .int .i64 ((n : Int) + 1), .int .i64 0, .int .i64 0, .string ByteArray.empty, .int .i64 1, .int .i64 0, .int .i64 n, .int .i64 0, .string ByteArray.empty] 41)).more (B' := (w4.alloc (.cells #[.int .i64 1, .int .i64 ((n : Int) + 1), .int .i64 0, .int .i64 0, .string ByteArray.empty, .int .i64 1, .int .i64 0, .int .i64 n, .int .i64 0, .string ByteArray.empty] 41)).heap.size) (by simp))
  have c4 := (HQ.out.below F4').more F4'.size
  clear m3 m4 r4 hb3 hb4 F3 s3
  go_wp2_with fail
  refine (HF2.out _ c4).mono ?_; rintro e w5 ⟨A5, k5, rfl, o5, hb5⟩
  have F5 := F4'.trans (hb5.mono F4'.size)
  have s5 := F5.size
  have hp5 := hide ((HP.out.below F5).more s5)
  have m5 := hide ((m4'.out.below hb5).more hb5.size)
  have k5' := hide ((k4.out.below hb5).more hb5.size)
  have o5' := hide (PMem.of_own HLQ.out.symm o5)
  clear m4' k4 o5 c4 hb5 F4' F4 s4
  have hpv := PVs.four (a := ⟨some ⟨w2.heap.size, 0, none⟩, 1, 1, [⟨1, n, 0, 0, ByteArray.empty⟩]⟩) (b := ⟨pA, pn, pc, pp⟩) (c := ⟨some ⟨w4.heap.size, 0, none⟩, 2, 2, [⟨1, (n : Int) + 1, 0, 0, ByteArray.empty⟩, ⟨1, 0, n, 0, ByteArray.empty⟩]⟩) (d := ⟨A5, lq, k5, cleanIns mq ++ qp⟩) m5.out hp5.out k5'.out o5'.out (by simp) (by simp; omega) (by simp) (by simp; omega)
  have hall : allP [⟨some ⟨w2.heap.size, 0, none⟩, 1, 1, [⟨1, n, 0, 0, ByteArray.empty⟩]⟩, ⟨pA, pn, pc, pp⟩, ⟨some ⟨w4.heap.size, 0, none⟩, 2, 2, [⟨1, (n : Int) + 1, 0, 0, ByteArray.empty⟩, ⟨1, 0, n, 0, ByteArray.empty⟩]⟩, ⟨A5, lq, k5, cleanIns mq ++ qp⟩] = pairOut n mq pp qp := by
    simp [allP, pairOut, moveIns]
  obtain ⟨N, hN⟩ : ∃ N, (pairOut n mq pp qp).length = N := ⟨_, rfl⟩
  have hNb : N ≤ 1000 := by
    rw [← hN, pairOut, List.length_append, List.length_append, List.length_append, HLQ.out, ← HP.out.1]
    simp only [List.length_cons, List.length_nil]
    omega
  have hcat := concat_any _ w5.heap.size 4 4 _ rfl (by omega) hpv
  rw [hall] at hcat
  have HCAT := hide (hcat.mono fun e w' h => h.n hN)
  have HN2 := hide hN
  clear hcat hall hpv hN m5 k5' o5' hp5
  simp only [PV.val] at HCAT
  go_wp2_with fail
  refine HCAT.out.mono ?_; rintro e w6 ⟨A6, k6, rfl, o6, hb6⟩
  have F6 := (F5.alloc s5 (.cells #[.slice (some ⟨w2.heap.size, 0, none⟩) 1 1, .slice pA pn pc, .slice (some ⟨w4.heap.size, 0, none⟩) 2 2, .slice A5 lq k5] 23)).trans (hb6.mono (by simp; omega))
  have s6 := F6.size
  have r6 := own_base (base' := w.heap.size) o6 (by simp; omega)
  have j6 := row1 w6 2 0 ((n : Int) + 1) 0 ByteArray.empty
  have r6' := r6.alloc (.cells #[.int .i64 2, .int .i64 0, .int .i64 ((n : Int) + 1), .int .i64 0, .string ByteArray.empty] 41)
  clear HCAT o6 hb6 F5 s5 r6
  go_wp2_with ((at_builtin; refine wpList_append_any _ rfl (.tmp 37) (.tmp 40) _ rfl w.heap.size 41 i0 (.agg #[.int .i64 0, .int .i64 0, .int .i64 0, .int .i64 0, .string ByteArray.empty]) 5 48 Try.underlying23 hi0 hz0 hz1 hz2 rfl (by omega) _ _ _ rfl r6' _ (some ⟨w6.heap.size, 0, none⟩) 1 1 (progCells ([⟨2, 0, (n : Int) + 1, 0, ByteArray.empty⟩])) rfl (Reads.of_own j6) (progCells_one _) (by unfold maxLen; omega) (by omega) (by simp; omega) ?_; intro v7 w7 r7 g7 hat7; obtain ⟨A7, k7, rfl, _⟩ := own_shape r7))
  have F7 := (F6.alloc s6 (.cells #[.int .i64 2, .int .i64 0, .int .i64 ((n : Int) + 1), .int .i64 0, .string ByteArray.empty] 41)).grown g7 (by simp; omega) (fun k hk => (r6'.lt k hk).1)
  have e7 : pairIns n mq pp qp = pairOut n mq pp qp ++ [⟨2, 0, (n : Int) + 1, 0, ByteArray.empty⟩] := rfl
  have m7 : PMem w7 w7.heap.size A7 (N + 1) (pairIns n mq pp qp) := by
    refine PMem.of_own ?_ (e := 41) (base := w.heap.size) (c := k7) ?_
    · rw [e7, List.length_append, HN2.out]; rfl
    · rw [e7, progCells_append]; exact r7
  have HD := hide (done_yes w7 (N + 1) k7 A7 _ m7 HI.out HG.out)
  clear r7 e7 r6' j6 g7 hat7
  go_wp2_with fail
  refine HD.out.mono ?_; rintro e w8 ⟨rfl, hb8⟩
  go_wp2
  go_ret2
  exact ⟨A7, N + 1, k7, rfl, (m7.below hb8).more hb8.size, F7.trans (hb8.mono F7.size)⟩
end Go.Proofs.Ytgbieakahgkkpaa
