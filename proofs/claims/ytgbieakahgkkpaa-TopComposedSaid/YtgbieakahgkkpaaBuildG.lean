import Derived.Test.YtgbieakahgkkpaaProg
import Derived.Test.YtgbieakahgkkpaaPMem
import Derived.Test.YtgbieakahgkkpaaBuildF
import Derived.Test.YtgbieakahgkkpaaComp
import Derived.WalkKit
import Derived.WalkSpells
import Derived.WalkLawsBesides
import Derived.Outline
import Derived.KernelRfl
namespace Go.Proofs.Ytgbieakahgkkpaa
open Go.RowKit

set_option maxHeartbeats 4000000 in
set_option maxRecDepth 100000 in
/-- If of small valid programs. -/
theorem bif_any (w : World) (cA pA qA : Option Addr) (cn cc pn pc qn qc : Nat) (cp pp qp : List Ins) (hc : PMem w w.heap.size cA cn cp) (hp : PMem w w.heap.size pA pn pp) (hq : PMem w w.heap.size qA qn qp) (hci : ∀ x ∈ cp, x.I64) (hpi : ∀ x ∈ pp, x.I64) (hqi : ∀ x ∈ qp, x.I64) (hcg : goodP cp 60 2000) (hpg : goodP pp 60 2000) (hqg : goodP qp 60 2000)
    (mc mp mq n : Nat) (hmc : regsMax cp + 1 = mc) (hmp : regsMax pp + 1 = mp) (hmq : regsMax qp + 1 = mq) (hn : n = max (max mc mp) mq) (hn28 : n ≤ 28)
    (hI : ∀ x ∈ ifIns n mp mq cp pp qp, x.I64) (hG : goodP (ifIns n mp mq cp pp qp) 4000 2000000) :
    Calls Try.prog 62 #[.slice cA cn cc, .slice pA pn pc, .slice qA qn qc] w fun e w' => ∃ A N cap, e = .returned (.tuple #[.slice A N cap, .int .i64 0]) ∧ PMem w' w'.heap.size A N (ifIns n mp mq cp pp qp) ∧ Below w.heap.size w w' := by
  obtain ⟨i0, hi0, hz0, hz1, hz2⟩ := info_parts info41
  have hcg' : goodP cp 4000 2000000 := ⟨by have := hcg.1; omega, by have := hcg.2.1; omega, hcg.2.2⟩
  have hpg' : goodP pp 4000 2000000 := ⟨by have := hpg.1; omega, by have := hpg.2.1; omega, hpg.2.2⟩
  have hqg' : goodP qp 4000 2000000 := ⟨by have := hqg.1; omega, by have := hqg.2.1; omega, hqg.2.2⟩
  have hcn : cn ≤ 60 := by have := hcg.1; have := hc.1; omega
  have hpn : pn ≤ 60 := by have := hpg.1; have := hp.1; omega
  have hqn : qn ≤ 60 := by have := hqg.1; have := hq.1; omega
  have hmp1 : 1 ≤ mp := by have := regsMax_nonneg pp pp.length; rw [List.take_length] at this; unfold regsMax at hmp; omega
  have hmq1 : 1 ≤ mq := by have := regsMax_nonneg qp qp.length; rw [List.take_length] at this; unfold regsMax at hmq; omega
  have hchk := check_any _ w.heap.size 3 3 [⟨cA, cn, cc, cp⟩, ⟨pA, pn, pc, pp⟩, ⟨qA, qn, qc, qp⟩] rfl (by omega) (PVs.three hc hp hq (by simp; omega) (by simp; omega) (by simp; omega)) (fun i v hv => by
    match i, hv with
    | 0, hv => simp at hv; subst hv; exact ⟨hci, hcg', by simp only; omega⟩
    | 1, hv => simp at hv; subst hv; exact ⟨hpi, hpg', by simp only; omega⟩
    | 2, hv => simp at hv; subst hv; exact ⟨hqi, hqg', by simp only; omega⟩)
  have hmr : mostRegs [⟨cA, cn, cc, cp⟩, ⟨pA, pn, pc, pp⟩, ⟨qA, qn, qc, qp⟩] = (n : Int) := by simp [mostRegs]; omega
  rw [hmr] at hchk
  simp only [PV.val] at hchk
  have HCHK := hide hchk
  obtain ⟨lp, hlp⟩ : ∃ lp, (cleanIns mp ++ pp).length = lp := ⟨_, rfl⟩
  obtain ⟨lq, hlq⟩ : ∃ lq, (cleanIns mq ++ qp).length = lq := ⟨_, rfl⟩
  have hlpb : lp ≤ 100 := by rw [← hlp, List.length_append, cleanIns_length, ← hp.1]; omega
  have hlqb : lq ≤ 100 := by rw [← hlq, List.length_append, cleanIns_length, ← hq.1]; omega
  have HF1 : Hid (∀ W : World, PMem W W.heap.size pA pn pp → Calls Try.prog 108 #[.slice pA pn pc] W (SliceN (cleanIns mp ++ pp) lp W)) := hide (fun W hW => (fresh_any W pn pc pA pp hW hpi hpg' mp hmp (by omega)).mono fun e w' h => h.n hlp)
  have HF2 : Hid (∀ W : World, PMem W W.heap.size qA qn qp → Calls Try.prog 108 #[.slice qA qn qc] W (SliceN (cleanIns mq ++ qp) lq W)) := hide (fun W hW => (fresh_any W qn qc qA qp hW hqi hqg' mq hmq (by omega)).mono fun e w' h => h.n hlq)
  have HI := hide hI
  have HG := hide hG
  have HC := hide hc
  have HP := hide hp
  have HQ := hide hq
  clear hchk hmr hI hG hc hp hq hci hpi hqi hcg hpg hqg hcg' hpg' hqg' hmc hmp hmq
  have HLP := hide hlp
  have HLQ := hide hlq
  have HN := hide hn
  clear hlp hlq hn
  go_enter Try.func62, Try.ntmps62
  go_wp2_with fail
  refine HCHK.out.mono ?_; rintro e w1 ⟨rfl, hb1⟩
  have F1 : Below w.heap.size w w1 := ((Below.refl _ _).alloc (Nat.le_refl _) _).trans (hb1.mono (by simp))
  have s1 := F1.size
  -- yes
  go_wp2_with fail
  refine (move_any w1 0 n).mono ?_; rintro e w2 ⟨rfl, hb2⟩
  have F2 := F1.trans (hb2.mono s1)
  have s2 := F2.size
  go_wp2_with fail
  have c2 := ((HP.out.below F2).alloc s2 (.cells #[.int .i64 1, .int .i64 0, .int .i64 n, .int .i64 0, .string ByteArray.empty] 41)).more (B' := (w2.alloc (.cells #[.int .i64 1, .int .i64 0, .int .i64 n, .int .i64 0, .string ByteArray.empty] 41)).heap.size) (by simp; omega)
  refine (HF1.out _ c2).mono ?_; rintro e w3 ⟨A3, k3, rfl, o3, hb3⟩
  have F3 := (F2.alloc s2 (.cells #[.int .i64 1, .int .i64 0, .int .i64 n, .int .i64 0, .string ByteArray.empty] 41)).trans (hb3.mono (by simp; omega))
  have s3 := F3.size
  have r3 := own_base (own_below (row1 w2 1 0 n 0 ByteArray.empty) hb3) s2
  go_wp2_with ((at_builtin; refine wpList_append_any _ rfl (.tmp 25) (.tmp 27) _ rfl w.heap.size 41 i0 (.agg #[.int .i64 0, .int .i64 0, .int .i64 0, .int .i64 0, .string ByteArray.empty]) 5 48 Try.underlying23 hi0 hz0 hz1 hz2 rfl (by omega) _ _ _ rfl r3 w3.heap.size A3 lp k3 (progCells (cleanIns mp ++ pp)) rfl (Reads.of_own o3) (progCells_one _) (by unfold maxLen; omega) (by omega) s3 ?_; intro v4 w4 r4 g4 hat4; obtain ⟨A4, k4, rfl, _⟩ := own_shape r4))
  have F4 := F3.grown g4 s3 (fun k hk => (r3.lt k hk).1)
  have s4 := F4.size
  have hy : (yesIns n mp pp).length = 1 + lp := by simp only [yesIns, List.length_append, List.length_cons, List.length_nil]; rw [← HLP.out, List.length_append]
  have m4 : PMem w4 w4.heap.size A4 (1 + lp) (yesIns n mp pp) := by
    refine PMem.of_own ?_ (e := 41) (base := w.heap.size) (c := k4) ?_
    · exact hy.symm
    · rw [yesIns, progCells_append]; exact r4
  have M4 := hide m4
  have HY := hide hy
  clear m4 hy hat4 o3 r3 r4 g4 F3 s3 hb3 c2 hb2 hb1 F1 F2 s1 s2
  -- no
  go_wp2_with fail
  refine (move_any w4 0 n).mono ?_; rintro e w5 ⟨rfl, hb5⟩
  have F5 := F4.trans (hb5.mono s4)
  have s5 := F5.size
  have M5 := hide (((M4.out.below hb5).more hb5.size).alloc (Nat.le_refl _) (.cells #[.int .i64 1, .int .i64 0, .int .i64 n, .int .i64 0, .string ByteArray.empty] 41))
  have m5 := hide (PMem.of_own (p := [⟨1, 0, n, 0, ByteArray.empty⟩]) rfl (row1 w5 1 0 n 0 ByteArray.empty))
  have F5' := F5.alloc s5 (.cells #[.int .i64 1, .int .i64 0, .int .i64 n, .int .i64 0, .string ByteArray.empty] 41)
  have c5 := (HQ.out.below F5').more F5'.size
  clear M4 F4 s4 hb5
  go_wp2_with fail
  refine (HF2.out _ c5).mono ?_; rintro e w6 ⟨A6, k6, rfl, o6, hb6⟩
  have F6 := F5'.trans (hb6.mono F5'.size)
  have s6 := F6.size
  have M6 := hide (((M5.out.more (by simp)).below hb6).more hb6.size)
  have m6 := hide ((m5.out.below hb6).more hb6.size)
  have q6 := hide (PMem.of_own HLQ.out.symm o6)
  clear M5 m5 c5 o6 hb6 F5 F5' s5
  go_wp2_with fail
  refine (leap_any _ n (1 + (1 + (lp : Int)))).mono ?_; intro e w7 h7; obtain ⟨A7, k7, rfl, o7, hb7⟩ := h7.n (N := 2) rfl
  have F7 := F6.trans (hb7.mono s6)
  have s7 := F7.size
  have M7 := hide ((M6.out.below hb7).more hb7.size)
  have m7 := hide ((m6.out.below hb7).more hb7.size)
  have q7 := hide ((q6.out.below hb7).more hb7.size)
  have l7 := hide (PMem.of_own (p := [⟨0, n, 0, 0, (T.pair .nil .nil).str⟩, ⟨5, n, 1 + (1 + (lp : Int)), 0, ByteArray.empty⟩]) rfl o7)
  clear M6 m6 q6 h7 o7 hb7 F6 s6
  have hpv := PVs.three (c := ⟨some ⟨w5.heap.size, 0, none⟩, 1, 1, [⟨1, 0, n, 0, ByteArray.empty⟩]⟩) (p := ⟨A6, lq, k6, cleanIns mq ++ qp⟩) (q := ⟨A7, 2, k7, [⟨0, n, 0, 0, (T.pair .nil .nil).str⟩, ⟨5, n, 1 + (1 + (lp : Int)), 0, ByteArray.empty⟩]⟩) m7.out q7.out l7.out (by simp) (by simp; omega) (by simp)
  have hall : allP [⟨some ⟨w5.heap.size, 0, none⟩, 1, 1, [⟨1, 0, n, 0, ByteArray.empty⟩]⟩, ⟨A6, lq, k6, cleanIns mq ++ qp⟩, ⟨A7, 2, k7, [⟨0, n, 0, 0, (T.pair .nil .nil).str⟩, ⟨5, n, 1 + (1 + (lp : Int)), 0, ByteArray.empty⟩]⟩] = noIns n mq (yesIns n mp pp).length qp := by
    rw [HY.out]
    simp [allP, noIns, moveIns, leapIns, jumpIns]
  obtain ⟨ln, hln⟩ : ∃ ln, (noIns n mq (yesIns n mp pp).length qp).length = ln := ⟨_, rfl⟩
  have hlnb : ln ≤ 200 := by
    rw [← hln, noIns, List.length_append, List.length_append, HLQ.out]
    simp only [leapIns, List.length_cons, List.length_nil]
    omega
  have hcat := concat_any _ w7.heap.size 3 3 _ rfl (by omega) hpv
  rw [hall] at hcat
  have HCAT := hide (hcat.mono fun e w' h => h.n hln)
  have HLN := hide hln
  clear hcat hall hpv hln m7 q7 l7
  simp only [PV.val] at HCAT
  go_wp2_with fail
  refine HCAT.out.mono ?_; rintro e w8 ⟨A8, k8, rfl, o8, hb8⟩
  have F8 := (F7.alloc s7 (.cells #[.slice (some ⟨w5.heap.size, 0, none⟩) 1 1, .slice A6 lq k6, .slice A7 2 k7] 23)).trans (hb8.mono (by simp; omega))
  have s8 := F8.size
  have M8 := hide ((((M7.out.alloc (Nat.le_refl _) (.cells #[.slice (some ⟨w5.heap.size, 0, none⟩) 1 1, .slice A6 lq k6, .slice A7 2 k7] 23)).more (by simp)).below hb8).more hb8.size)
  have n8 := hide (PMem.of_own HLN.out.symm o8)
  clear HCAT M7 o8 hb8 F7 s7
  -- all
  go_wp2_with fail
  refine (move_any w8 n 0).mono ?_; rintro e w9 ⟨rfl, hb9⟩
  have F9 := F8.trans (hb9.mono s8)
  have s9 := F9.size
  obtain ⟨o1, ho1⟩ : ∃ z, z = Obj.cells #[.int .i64 1, .int .i64 n, .int .i64 0, .int .i64 0, .string ByteArray.empty] 41 := ⟨_, rfl⟩
  obtain ⟨o2, ho2⟩ : ∃ z, z = Obj.cells #[.int .i64 5, .int .i64 0, .int .i64 (1 + (ln : Int)), .int .i64 0, .string ByteArray.empty] 41 := ⟨_, rfl⟩
  have M9 := hide (((((M8.out.below hb9).more hb9.size).alloc (Nat.le_refl _) o1).more (B' := (w9.alloc o1).heap.size) (by simp)).alloc (Nat.le_refl _) o2)
  have n9 := hide (((((n8.out.below hb9).more hb9.size).alloc (Nat.le_refl _) o1).more (B' := (w9.alloc o1).heap.size) (by simp)).alloc (Nat.le_refl _) o2)
  have i9 := PMem.of_own (p := [⟨1, n, 0, 0, ByteArray.empty⟩]) rfl (row1 w9 1 n 0 0 ByteArray.empty)
  rw [← ho1] at i9
  have I9 := hide (i9.alloc (Nat.le_refl _) o2)
  have j9 := PMem.of_own (p := [⟨5, 0, 1 + (ln : Int), 0, ByteArray.empty⟩]) rfl (row1 (w9.alloc o1) 5 0 (1 + (ln : Int)) 0 ByteArray.empty)
  rw [← ho2] at j9
  have F9b := (F9.alloc s9 o1).alloc (by simp; omega) o2
  have c9 := hide ((HC.out.below F9b).more F9b.size)
  have J9 := hide j9
  clear i9 j9 M8 n8 hb9 F8 s8
  simp only [World.size_alloc] at M9 n9 I9 J9 c9
  have hpv := PVs.five (w := (w9.alloc o1).alloc o2) (a := ⟨some ⟨w9.heap.size, 0, none⟩, 1, 1, [⟨1, n, 0, 0, ByteArray.empty⟩]⟩) (b := ⟨cA, cn, cc, cp⟩) (c := ⟨some ⟨w9.heap.size + 1, 0, none⟩, 1, 1, [⟨5, 0, 1 + (ln : Int), 0, ByteArray.empty⟩]⟩) (d := ⟨A8, ln, k8, noIns n mq (yesIns n mp pp).length qp⟩) (f := ⟨A4, 1 + lp, k4, yesIns n mp pp⟩)
    (by simpa using I9.out.more (B' := w9.heap.size + 1 + 1) (by omega)) (by simpa using c9.out) (by simpa using J9.out) (by simpa using n9.out.more (B' := w9.heap.size + 1 + 1) (by omega)) (by simpa using M9.out.more (B' := w9.heap.size + 1 + 1) (by omega)) (by simp) (by simp; omega) (by simp) (by simp; omega) (by simp; omega)
  have hall : allP [⟨some ⟨w9.heap.size, 0, none⟩, 1, 1, [⟨1, n, 0, 0, ByteArray.empty⟩]⟩, ⟨cA, cn, cc, cp⟩, ⟨some ⟨w9.heap.size + 1, 0, none⟩, 1, 1, [⟨5, 0, 1 + (ln : Int), 0, ByteArray.empty⟩]⟩, ⟨A8, ln, k8, noIns n mq (yesIns n mp pp).length qp⟩, ⟨A4, 1 + lp, k4, yesIns n mp pp⟩] = ifIns n mp mq cp pp qp := by
    simp [allP, ifIns, moveIns, jumpIns, HLN.out]
  obtain ⟨N, hN⟩ : ∃ N, (ifIns n mp mq cp pp qp).length = N := ⟨_, rfl⟩
  have hcat := concat_any _ ((w9.alloc o1).alloc o2).heap.size 5 5 _ rfl (by omega) hpv
  rw [hall] at hcat
  simp only [World.size_alloc] at hcat
  have HCAT := hide (hcat.mono fun e w' h => h.n hN)
  have HN2 := hide hN
  clear hcat hall hpv hN M9 n9 I9 J9 c9
  simp only [PV.val] at HCAT
  rw [ho1, ho2] at HCAT F9b
  clear ho1 ho2
  go_wp2_with fail
  refine HCAT.out.mono ?_; rintro e w10 ⟨A10, k10, rfl, o10, hb10⟩
  have F10 := (F9b.alloc F9b.size (.cells #[.slice (some ⟨w9.heap.size, 0, none⟩) 1 1, .slice cA cn cc, .slice (some ⟨w9.heap.size + 1, 0, none⟩) 1 1, .slice A8 ln k8, .slice A4 (1 + lp) k4] 23)).trans (hb10.mono (by have := F9b.size; simp at this ⊢; omega))
  have m10 : PMem w10 w10.heap.size A10 N (ifIns n mp mq cp pp qp) := PMem.of_own HN2.out.symm o10
  have HD := hide (done_yes w10 N k10 A10 _ m10 HI.out HG.out)
  clear HCAT o10 hb10 F9b
  go_wp2_with fail
  refine HD.out.mono ?_; rintro e w11 ⟨rfl, hb11⟩
  go_wp2
  go_ret2
  exact ⟨A10, N, k10, rfl, (m10.below hb11).more hb11.size, F10.trans (hb11.mono F10.size)⟩
end Go.Proofs.Ytgbieakahgkkpaa
