import Derived.Test.YtgbieakahgkkpaaProg
import Derived.Test.YtgbieakahgkkpaaPMem
import Derived.Test.YtgbieakahgkkpaaBuildD
import Derived.WalkKit
import Derived.WalkSpells
import Derived.WalkLawsBesides
import Derived.Outline
import Derived.KernelRfl
namespace Go.Proofs.Ytgbieakahgkkpaa
open Go.RowKit

/-- What has been put together of two programs after k rounds. -/
def thenAt (c p : List Ins) (mp : Nat) : Nat → List Ins
  | 0 => []
  | 1 => c
  | _ => c ++ (cleanIns mp ++ p)
def thenIns (mp : Nat) (c p : List Ins) : List Ins := c ++ (cleanIns mp ++ p)

set_option maxHeartbeats 4000000 in
set_option maxRecDepth 100000 in
/-- Then of two small valid programs. -/
theorem then_any (w : World) (g cap : Nat) (cA pA : Option Addr) (cn cc pn pc : Nat) (cp pp : List Ins) (hc : PMem w w.heap.size cA cn cp) (hp : PMem w w.heap.size pA pn pp) (hgl : g < w.heap.size)
    (h0 : w.cell? ⟨g, 0, none⟩ = some (.slice cA cn cc)) (h1 : w.cell? ⟨g, 1, none⟩ = some (.slice pA pn pc))
    (hci : ∀ x ∈ cp, x.I64) (hpi : ∀ x ∈ pp, x.I64) (hcg : goodP cp 60 2000) (hpg : goodP pp 60 2000)
    (mc mp : Nat) (hmc : regsMax cp + 1 = mc) (hmp : regsMax pp + 1 = mp) (hc28 : mc ≤ 28) (hp28 : mp ≤ 28)
    (hI : ∀ x ∈ thenIns mp cp pp, x.I64) (hG : goodP (thenIns mp cp pp) 4000 2000000) :
    Calls Try.prog 60 #[.slice (some ⟨g, 0, none⟩) 2 cap] w fun e w' => ∃ A N cap, e = .returned (.tuple #[.slice A N cap, .int .i64 0]) ∧ PMem w' w'.heap.size A N (thenIns mp cp pp) ∧ Below w.heap.size w w' := by
  obtain ⟨i0, hi0, hz0, hz1, hz2⟩ := info_parts info41
  have hcg' : goodP cp 4000 2000000 := ⟨by have := hcg.1; omega, by have := hcg.2.1; omega, hcg.2.2⟩
  have hpg' : goodP pp 4000 2000000 := ⟨by have := hpg.1; omega, by have := hpg.2.1; omega, hpg.2.2⟩
  have hcn : cn ≤ 60 := by have := hcg.1; have := hc.1; omega
  have hpn : pn ≤ 60 := by have := hpg.1; have := hp.1; omega
  have hchk := check_any w g 2 cap [⟨cA, cn, cc, cp⟩, ⟨pA, pn, pc, pp⟩] rfl (by omega) ⟨hgl, fun i v hv => by
      match i, hv with
      | 0, hv => simp at hv; subst hv; exact ⟨h0, hc, by simp; omega⟩
      | 1, hv => simp at hv; subst hv; exact ⟨h1, hp, by simp; omega⟩⟩ (fun i v hv => by
    match i, hv with
    | 0, hv => simp at hv; subst hv; exact ⟨hci, hcg', by simp only; omega⟩
    | 1, hv => simp at hv; subst hv; exact ⟨hpi, hpg', by simp only; omega⟩)
  obtain ⟨M, hM⟩ : ∃ M, mostRegs [⟨cA, cn, cc, cp⟩, ⟨pA, pn, pc, pp⟩] = M := ⟨_, rfl⟩
  rw [hM] at hchk
  have HCHK := hide hchk
  obtain ⟨lp, hlp⟩ : ∃ lp, (cleanIns mp ++ pp).length = lp := ⟨_, rfl⟩
  have hlpb : lp ≤ 100 := by rw [← hlp, List.length_append, cleanIns_length, ← hp.1]; omega
  have HF2 : Hid (∀ W : World, PMem W W.heap.size pA pn pp → Calls Try.prog 108 #[.slice pA pn pc] W (SliceN (cleanIns mp ++ pp) lp W)) := hide (fun W hW => (fresh_any W pn pc pA pp hW hpi hpg' mp hmp (by omega)).mono fun e w' h => h.n hlp)
  have hN2 : (thenIns mp cp pp).length = cn + lp := by rw [thenIns, List.length_append, hlp, hc.1]
  have HI := hide hI
  have HG := hide hG
  have HC := hide hc
  have HP := hide hp
  have HN2 := hide hN2
  have H0 := hide h0
  have H1 := hide h1
  clear hchk hM hI hG hc hp hci hpi hcg hpg hcg' hpg' hmc hmp hlp hN2 h0 h1
  go_enter Try.func60, Try.ntmps60
  go_wp2_with fail
  refine HCHK.out.mono ?_; rintro e w1 ⟨rfl, hb1⟩
  go_wp2
  go_loopw [6, 19] (fun o i wr => ∃ k N : Nat, k ≤ 2 ∧ i = .int .i64 k ∧ N = (thenAt cp pp mp k).length ∧ N ≤ 200 ∧ wr.ownsRow w.heap.size 41 5 o N (progCells (thenAt cp pp mp k)) ∧ Below w.heap.size w wr) (fun _ i _ => 2 - (intOf i).toNat)
  case atStart => exact ⟨0, 0, by omega, rfl, rfl, by omega, World.ownsRow_nil _ _ _ _, hb1⟩
  case round =>
    clear hb1
    obtain ⟨k, N, hk, rfl, hN, hNb, hown, hbel⟩ := hrel
    have hsz := hbel.size
    match k, hk with
    | 0, _ =>
      have hN0 : N = 0 := by simpa [thenAt] using hN
      subst hN0
      clear hN
      have hr := (HC.out.below hbel).2
      have hcell : w.heap.size ≤ wr.heap.size := hsz
      have h0 : wr.cell? ⟨g, 0, none⟩ = some (.slice cA cn cc) := by rw [hbel.cell (p := ⟨g, 0, none⟩) hgl]; exact H0.out
      go_wp2_with ((at_builtin; refine wpList_append_any _ rfl (.tmp 26) (.tmp 27) _ rfl w.heap.size 41 i0 (.agg #[.int .i64 0, .int .i64 0, .int .i64 0, .int .i64 0, .string ByteArray.empty]) 5 48 Try.underlying23 hi0 hz0 hz1 hz2 rfl (by omega) _ _ _ rfl hown w.heap.size cA cn cc (progCells cp) rfl hr (progCells_one _) (by unfold maxLen; omega) (by omega) hsz ?_; intro v2 w2 r2 g2 hat2))
      go_wp2
      go_roundw
      case rel => exact ⟨1, 0 + cn, by omega, rfl, by simp [thenAt, HC.out.1], by omega, by simpa [thenAt, progCells] using r2, hbel.grown g2 hsz (fun j hj => (hown.lt j hj).1)⟩
      case measure => simp [intOf]
    | 1, _ =>
      have hN1 : N = cn := by rw [hN, thenAt, HC.out.1]
      subst hN1
      clear hN
      have h1 : wr.cell? ⟨g, 1, none⟩ = some (.slice pA pn pc) := by rw [hbel.cell (p := ⟨g, 1, none⟩) hgl]; exact H1.out
      go_wp2_with fail
      refine (HF2.out _ ((HP.out.below hbel).more hsz)).mono ?_; rintro e w2 ⟨A2, k2, rfl, o2, hb2⟩
      have F2 := hbel.trans (hb2.mono hsz)
      have s2 := F2.size
      have r2 := own_below hown hb2
      obtain ⟨A9, c9, rfl, _⟩ := own_shape hown
      go_wp2_with ((at_builtin; refine wpList_append_any _ rfl (.tmp 29) (.tmp 31) _ rfl w.heap.size 41 i0 (.agg #[.int .i64 0, .int .i64 0, .int .i64 0, .int .i64 0, .string ByteArray.empty]) 5 48 Try.underlying23 hi0 hz0 hz1 hz2 rfl (by omega) _ _ _ rfl r2 w2.heap.size A2 lp k2 (progCells (cleanIns mp ++ pp)) rfl (Reads.of_own o2) (progCells_one _) (by unfold maxLen; omega) (by omega) s2 ?_; intro v3 w3 r3 g3 hat3; obtain ⟨A3, k3, rfl, _⟩ := own_shape r3))
      go_wp2
      go_roundw
      case rel =>
        refine ⟨2, N + lp, by omega, rfl, ?_, by omega, ?_, F2.grown g3 s2 (fun j hj => (r2.lt j hj).1)⟩
        · rw [← HN2.out]; rfl
        · show w3.ownsRow _ _ _ _ _ (progCells (cp ++ (cleanIns mp ++ pp)))
          rw [progCells_append]; exact r3
      case measure => simp [intOf]
    | 2, _ =>
      have hN2' : N = cn + lp := by rw [hN]; exact HN2.out
      subst hN2'
      clear hN
      obtain ⟨A2, k2, rfl, _⟩ := own_shape hown
      have m2 : PMem wr wr.heap.size A2 (cn + lp) (thenIns mp cp pp) := PMem.of_own HN2.out.symm hown
      have HD := hide (done_yes wr (cn + lp) k2 A2 _ m2 HI.out HG.out)
      go_wp2_with fail
      refine HD.out.mono ?_; rintro e w3 ⟨rfl, hb3⟩
      go_wp2
      go_ret2
      exact ⟨A2, cn + lp, k2, rfl, (m2.below hb3).more hb3.size, hbel.trans (hb3.mono hsz)⟩
end Go.Proofs.Ytgbieakahgkkpaa
