import Derived.Test.YtgbieakahgkkpaaProg
import Derived.Test.YtgbieakahgkkpaaPMem
import Derived.Test.YtgbieakahgkkpaaTopA
import Derived.WalkKit
import Derived.WalkSpells
import Derived.WalkLawsBesides
import Derived.Outline
import Derived.KernelRfl
import Derived.BigQuiet
import Derived.Deep.QuietTactic
import Derived.Deep.RegionHeld3
import Derived.Deep.DrawnRows
import Derived.Test.YtgbieakahgkkpaaRun
namespace Go.Proofs.Ytgbieakahgkkpaa
open Go.RowKit
attribute [local go_sem ↓] Go.wp_at_zero Go.wp_at_succ

theorem grow_str (t : T) (most : Int) (w : World) (hm : (t.size : Int) ≤ most ∧ most ≤ 100000000) :
    Calls Try.prog 21 #[.string t.str, .int .i64 most] w fun e w' => ∃ p, e = .returned (.tuple #[.pointer p, .bool true]) ∧ Below w.heap.size w w' ∧ Rep 102 w' p t := by
  have hs : growSpec t.str most = some t := by unfold growSpec; rw [if_neg (by rw [T.str_size]; omega), T.str_list, parse_bytes]
  exact (grow_any t.str most w (by omega)).mono fun e w' ⟨p, he, hb, _, hr⟩ => ⟨p, by rw [he, hs]; rfl, hb, hr t hs⟩

set_option maxHeartbeats 16000000 in
set_option maxRecDepth 100000 in
/-- follow: a run of a valid program. -/
theorem follow_any (w : World) (n cap : Nat) (A : Option Addr) (q : List I) (fuel : Nat) (p : Option Addr) (x : T) (h : PMem w w.heap.size A n (encP q)) (hw : WF q) (hq : charsOf q ≤ 2000000) (hn : n ≤ 4000)
    (hx : Rep 102 w p x) (hxs : x.size ≤ 100000000) (hf : fuel ≤ 1000000000) :
    Calls Try.prog 98 #[.slice A n cap, .pointer p, .int .i64 fuel] w (FollowPost 102 (follow q fuel 0 (sumR (first x).r) (first x)) w) := by
  obtain ⟨i0, hi0, hz0, hz1, hz2⟩ := info_parts info25
  have hmk := fun W => run_make_rowN (P := Try.prog) 98 25 i0 (.pointer none) Try.underlying98 hi0 hz0 .i64 .i64 n n (Nat.le_refl _) (by rw [hz2]; omega) (by omega) W
  have hnq : n = q.length := by rw [h.1, encP_length]
  rw [hz1, Nat.mul_one, madeCells_pointers] at hmk
  have HNQ := hide hnq
  clear hnq
  go_enter Try.func98, Try.ntmps98
  go_wp2
  go_loopw [12] (fun i wr => SetRel 102 151 25 q n w i wr) (fun i _ => n - (intOf i).toNat)
  case atStart => exact SetRel.start HNQ.out
  case round =>
    obtain ⟨k, ps, hk, rfl, hreps, hlen, hR, hG, hbel⟩ := hrel
    by_cases hlt : k < n
    · have hmem := (h.below (hbel.mono (Nat.le_refl _)))
      obtain ⟨b, off, y, rfl, hb, hy, c0, c1, c2, c3, c4⟩ := hmem.at_ k hlt
      obtain ⟨z, hz, rfl⟩ := encP_get hy
      clear hmem hy
      have hlt' : ((k : Int) < (n : Int)) := by omega
      have hk0 : (0 : Int) ≤ (k : Int) := by omega
      have hfz := hG.frozen k
      obtain ⟨u, hu⟩ : ∃ u, wr.cell? ⟨w.heap.size + 1, k, none⟩ = some u := ⟨_, by rw [hG.cell]; exact Array.getElem?_eq_getElem (by simp [ptrs, hlen]; exact hlt)⟩
      have HR := hide hreps
      have HZ := hide hz
      have HL := hide hlen
      have HMK := hide hmk
      clear hreps hz hlen hmk
      cases z with
      | set a t =>
        have hts : (t.size : Int) ≤ 2000000 := by have := charsOf_le HZ.out; simp only [I.chars] at this; omega
        simp only [I.enc] at c0 c1 c2 c3 c4
        go_wp2_with fail
        refine (grow_str t _ _ (by omega)).mono ?_; rintro e w1 ⟨pt, rfl, hb1, hr1⟩
        have hG1 := hG.below hb1 hG.lt
        have hfz1 := hG1.frozen k
        obtain ⟨u1, hu1⟩ : ∃ u, w1.cell? ⟨w.heap.size + 1, k, none⟩ = some u := ⟨u, by rw [← hu, hG1.cell, hG.cell]⟩
        go_wp2
        go_roundw
        case rel => exact SetRel.next (t := t) hlt HL.out HR.out hR hG hbel (by decide) HZ.out rfl hb1 hr1
        case measure => simp [intOf]; omega
      | _ =>
        simp only [I.enc] at c0 c1 c2 c3 c4
        go_wp2
        go_roundw
        case rel => exact SetRel.skip hlt HR.out HL.out hR hG hbel HZ.out rfl
        case measure => simp [intOf]; omega
    · have hkn : n = k := by omega
      subst hkn
      have hreps' : Reps 102 wr ps (q.map setT) := SetRel.done HNQ.out hreps
      have hs0 : (0 : Int) ≤ (x.size : Int) := by omega
      have hs1 : (x.size : Int) ≤ 100000000 := by omega
      have cR : wr.cell? ⟨w.heap.size, 0, none⟩ = some (.pointer none) := by rw [hR.cell]; rfl
      have fR := hR.frozen 0
      have hxr : Rep 102 (wr.setCell ⟨w.heap.size, 0, none⟩ (.pointer p)) p x := (hx.below hbel).kept ((NK.refl _ _).set_ hR (by decide) 0 none _)
      have HSTART := hide (FolRel.start (n := n) (fuel := fuel) hx hxs hR hreps' hG hbel (by decide))
      clear hreps' hreps hmk hR hG hlen
      go_wp2_with fail
      refine (size_any _ _ _ hxr).mono ?_; rintro e w' ⟨rfl, rfl⟩
      go_wp2
      clear hxr cR fR hbel
      obtain ⟨res, hres⟩ : ∃ res, res = follow q fuel 0 (sumR (first x).r) (first x) := ⟨_, rfl⟩
      rw [← hres] at HSTART ⊢
      clear hres
      go_loopw [13, 14, 15, 16] (fun pc all most k wr => FolRel 102 151 25 q n fuel ps res w pc all most k wr) (fun _ _ _ k _ => fuel - (intOf k).toNat)
      case atStart => exact HSTART.out
      case round =>
        clear HSTART
        obtain ⟨s, j, m, rs, rfl, rfl, rfl, rfl, hjf, hpcn, hbd, hm, hrl, hrr, hR, hss, hG, hbel, hf⟩ := hrel
        have hsz := hbel.size
        have HF := hide hf
        have HRL := hide hrl
        obtain ⟨sm, hsm⟩ : ∃ sm, sm = sumR s.r := ⟨_, rfl⟩
        have hsmle : sm ≤ 3200000000 := by rw [hsm]; exact sumR_le hbd
        rw [← hsm]
        have HSM := hide hsm
        clear hf hrl hsm
        have c00 : ∃ p0, wr.cell? ⟨w.heap.size, 0, none⟩ = some (.pointer p0) ∧ Rep 102 wr p0 (s.r 0) := Fol.reg_ (by omega) hrr hR
        obtain ⟨p0, c00, hp0⟩ := c00
        by_cases hpc : s.pc = n
        · have hpc1 : ((s.pc : Int) == (n : Int)) = true := by rw [hpc]; simp
          have HRES := hide (Fol.ended (hpc.trans HNQ.out) HF.out)
          have HP := hide hpc
          clear hpc
          go_wp2
          refine bodyPost_ret (results_tmp4 rfl _ _ _) rfl ?_
          exact ⟨p0, _, _, by rw [HRES.out]; rfl, hbel, by rw [HRES.out]; exact ⟨rfl, rfl, hp0⟩⟩
        · have hpc1 : ((s.pc : Int) == (n : Int)) = false := by rw [beq_eq_false_iff_ne]; omega
          have hpcq : s.pc ≠ q.length := by have := HNQ.out; omega
          by_cases hjj : j = fuel
          · have hj1 : ((j : Int) == (fuel : Int)) = true := by rw [hjj]; simp
            have HRES := hide (Fol.going hpcq hjj HF.out)
            clear hjj
            go_wp2
            refine bodyPost_ret (results_tmp4 rfl _ _ _) rfl ?_
            exact ⟨none, _, _, by rw [HRES.out]; rfl, hbel, by rw [HRES.out]; exact ⟨rfl, rfl, rfl⟩⟩
          · have hj1 : ((j : Int) == (fuel : Int)) = false := by rw [beq_eq_false_iff_ne]; omega
            have hjlt : j < fuel := by omega
            have hlt : s.pc < n := by omega
            have hltq : s.pc < q.length := by have := HNQ.out; omega
            have hmem := (h.below (hbel.mono (Nat.le_refl _)))
            obtain ⟨b, off, y, rfl, hb, hy, c0, c1, c2, c3, c4⟩ := hmem.at_ s.pc hlt
            obtain ⟨z, hz, rfl⟩ := encP_get hy
            have hwf := hw s.pc z hz
            have hstep : step q s = step1 z s := by unfold step; rw [hz]
            have HST := hide hstep
            have HZ := hide hz
            have hpc0 : (0 : Int) ≤ (s.pc : Int) := by omega
            have hpcl : (s.pc : Int) < (n : Int) := by omega
            have hpcb : (s.pc : Int) ≤ 4000 := by omega
            have htz : z.chars ≤ 2000000 := Nat.le_trans (charsOf_le hz) hq
            clear hmem hy hz hstep hp0 c00 hjj hpc
            obtain ⟨pc, hpcv⟩ : ∃ pc, pc = s.pc := ⟨_, rfl⟩
            rw [← hpcv] at hpc0 hpcl hpcb hlt hltq hpcq c0 c1 c2 c3 c4 HZ hwf hpc1 ⊢
            have HPC := hide hpcv
            clear hpcv hltq
            have hlt1 : w.heap.size < wr.heap.size := hR.lt
            have hlt2 : w.heap.size + 1 < wr.heap.size := hG.lt
            cases z with
            | set a t =>
              have ha : a < 32 := hwf
              simp only [I.enc, I.chars] at c0 c1 c2 c3 c4 htz
              obtain ⟨va, ka, ra⟩ := Fol.reg_ (a := a) ha hrr hR
              have fa := hR.frozen a
              have ia : (0 : Int) ≤ (a : Int) := by omega
              have la : (a : Int) < 32 := by omega
              obtain ⟨pt, kt, rt⟩ := Fol.set_ HZ.out hss hG
              simp only [setT] at rt
              go_wp2_with fail
              obtain ⟨ty, hty⟩ : ∃ ty, ty = (t : T).size := ⟨_, rfl⟩
              obtain ⟨ta, hta⟩ : ∃ ta, ta = (s.r a).size := ⟨_, rfl⟩
              have ry' := fun (W : World) (hW : NK 102 wr W) => (size_any W _ _ (rt.kept hW))
              have ra' := fun (W : World) (hW : NK 102 wr W) => (size_any W _ _ (ra.kept hW))
              rw [← hty] at ry'
              rw [← hta] at ra'
              have hty1 : ty ≤ 100000000 := by rw [hty]; first | omega | (simp only [T.size]; have hz3 := HZB.out; have hz4 := HZC.out; have hz5 := HD.out; omega) | simp [T.size]
              have hta1 : ta ≤ 100000000 := by rw [hta]; exact hbd a
              have RY := hide ry'
              have RA := hide ra'
              have HTY := hide hty
              have HTA := hide hta
              clear ry' ra' hty hta
              have w1 : IntKind.i64.wrap ((ty : Int) - (ta : Int)) = (ty : Int) - (ta : Int) := by rw [IntKind.wrap_i64]; omega
              have w2 : IntKind.i64.wrap ((sm : Int) + ((ty : Int) - (ta : Int))) = (sm : Int) + ((ty : Int) - (ta : Int)) := by rw [IntKind.wrap_i64]; omega
              obtain ⟨M, hM⟩ : ∃ M, (if (m : Int) < (sm : Int) + ((ty : Int) - (ta : Int)) then (sm : Int) + ((ty : Int) - (ta : Int)) else (m : Int)) = M := ⟨_, rfl⟩
              go_quiet (first | (go_at_call 63; first | exact quiet_left (RY.out _ (((NK.refl 102 _).alloc _).drewN _)) | exact quiet_left (RA.out _ (((NK.refl 102 _).alloc _).drewN _)) | exact quiet_add_left (RY.out _ (((NK.refl 102 _).alloc _).drewN _)) | exact quiet_add_left (RA.out _ (((NK.refl 102 _).alloc _).drewN _))))
              go_wp2
              go_roundw
              case rel =>
                refine FolRel.next (s' := ⟨s.pc + 1, upd s.r a t⟩) (a := a) (t := t) (pt := pt) ha hjlt hbd (by have := HTY.out; omega) HRL.out hrr hR hss hG hbel (by decide) (below_drewN ((Below.refl _ _).alloc (Nat.le_refl _) _) _) (Rep.drewN (rt.alloc _) _) (by rw [← HPC.out]; exact hpcq) (HST.out.trans rfl) rfl (by have := HPC.out; show s.pc + 1 ≤ n; omega) HF.out hm (by have := HPC.out; simp; omega) (by have h1 := HSM.out; have h2 := HTY.out; have h3 := HTA.out; omega) (by first | (rw [← hM]; split <;> omega) | (split <;> omega))
              case measure => simp [intOf]; omega
            | move a b =>
              obtain ⟨ha, hb'⟩ := hwf
              simp only [I.enc] at c0 c1 c2 c3 c4
              obtain ⟨va, ka, ra⟩ := Fol.reg_ (a := a) ha hrr hR
              have fa := hR.frozen a
              have ia : (0 : Int) ≤ (a : Int) := by omega
              have la : (a : Int) < 32 := by omega
              obtain ⟨vb, kb, rb⟩ := Fol.reg_ (a := b) hb' hrr hR
              have fb := hR.frozen b
              have ib : (0 : Int) ≤ (b : Int) := by omega
              have lb : (b : Int) < 32 := by omega
              have hbb := hbd b
              go_wp2_with fail
              obtain ⟨ty, hty⟩ : ∃ ty, ty = (s.r b : T).size := ⟨_, rfl⟩
              obtain ⟨ta, hta⟩ : ∃ ta, ta = (s.r a).size := ⟨_, rfl⟩
              have ry' := fun (W : World) (hW : NK 102 wr W) => (size_any W _ _ (rb.kept hW))
              have ra' := fun (W : World) (hW : NK 102 wr W) => (size_any W _ _ (ra.kept hW))
              rw [← hty] at ry'
              rw [← hta] at ra'
              have hty1 : ty ≤ 100000000 := by rw [hty]; first | omega | (simp only [T.size]; have hz3 := HZB.out; have hz4 := HZC.out; have hz5 := HD.out; omega) | simp [T.size]
              have hta1 : ta ≤ 100000000 := by rw [hta]; exact hbd a
              have RY := hide ry'
              have RA := hide ra'
              have HTY := hide hty
              have HTA := hide hta
              clear ry' ra' hty hta
              have w1 : IntKind.i64.wrap ((ty : Int) - (ta : Int)) = (ty : Int) - (ta : Int) := by rw [IntKind.wrap_i64]; omega
              have w2 : IntKind.i64.wrap ((sm : Int) + ((ty : Int) - (ta : Int))) = (sm : Int) + ((ty : Int) - (ta : Int)) := by rw [IntKind.wrap_i64]; omega
              obtain ⟨M, hM⟩ : ∃ M, (if (m : Int) < (sm : Int) + ((ty : Int) - (ta : Int)) then (sm : Int) + ((ty : Int) - (ta : Int)) else (m : Int)) = M := ⟨_, rfl⟩
              go_quiet (first | (go_at_call 63; first | exact quiet_left (RY.out _ (((NK.refl 102 _).alloc _).drewN _)) | exact quiet_left (RA.out _ (((NK.refl 102 _).alloc _).drewN _)) | exact quiet_add_left (RY.out _ (((NK.refl 102 _).alloc _).drewN _)) | exact quiet_add_left (RA.out _ (((NK.refl 102 _).alloc _).drewN _))))
              go_wp2
              go_roundw
              case rel =>
                refine FolRel.next (s' := ⟨s.pc + 1, upd s.r a (s.r b)⟩) (a := a) (t := s.r b) (pt := vb) ha hjlt hbd (by have := HTY.out; omega) HRL.out hrr hR hss hG hbel (by decide) (below_drewN ((Below.refl _ _).alloc (Nat.le_refl _) _) _) (Rep.drewN (rb.alloc _) _) (by rw [← HPC.out]; exact hpcq) (HST.out.trans rfl) rfl (by have := HPC.out; show s.pc + 1 ≤ n; omega) HF.out hm (by have := HPC.out; simp; omega) (by have h1 := HSM.out; have h2 := HTY.out; have h3 := HTA.out; omega) (by first | (rw [← hM]; split <;> omega) | (split <;> omega))
              case measure => simp [intOf]; omega
            | head a b =>
              obtain ⟨ha, hb'⟩ := hwf
              simp only [I.enc] at c0 c1 c2 c3 c4
              obtain ⟨va, ka, ra⟩ := Fol.reg_ (a := a) ha hrr hR
              have fa := hR.frozen a
              have ia : (0 : Int) ≤ (a : Int) := by omega
              have la : (a : Int) < 32 := by omega
              obtain ⟨vb, kb, rb⟩ := Fol.reg_ (a := b) hb' hrr hR
              have fb := hR.frozen b
              have ib : (0 : Int) ≤ (b : Int) := by omega
              have lb : (b : Int) < 32 := by omega
              have hbb := hbd b
              cases hsr : s.r b with
              | nil =>
                rw [hsr] at rb
                have e : vb = none := rb
                subst e
                have HSR := hide hsr
                clear hsr
                go_wp2_with fail
                obtain ⟨ty, hty⟩ : ∃ ty, ty = (.nil : T).size := ⟨_, rfl⟩
                obtain ⟨ta, hta⟩ : ∃ ta, ta = (s.r a).size := ⟨_, rfl⟩
                have ry' := fun (W : World) (hW : NK 102 wr W) => (size_any W _ _ ((show Rep 102 wr none .nil from rfl).kept hW))
                have ra' := fun (W : World) (hW : NK 102 wr W) => (size_any W _ _ (ra.kept hW))
                rw [← hty] at ry'
                rw [← hta] at ra'
                have hty1 : ty ≤ 100000000 := by rw [hty]; first | omega | (simp only [T.size]; have hz3 := HZB.out; have hz4 := HZC.out; have hz5 := HD.out; omega) | simp [T.size]
                have hta1 : ta ≤ 100000000 := by rw [hta]; exact hbd a
                have RY := hide ry'
                have RA := hide ra'
                have HTY := hide hty
                have HTA := hide hta
                clear ry' ra' hty hta
                have w1 : IntKind.i64.wrap ((ty : Int) - (ta : Int)) = (ty : Int) - (ta : Int) := by rw [IntKind.wrap_i64]; omega
                have w2 : IntKind.i64.wrap ((sm : Int) + ((ty : Int) - (ta : Int))) = (sm : Int) + ((ty : Int) - (ta : Int)) := by rw [IntKind.wrap_i64]; omega
                obtain ⟨M, hM⟩ : ∃ M, (if (m : Int) < (sm : Int) + ((ty : Int) - (ta : Int)) then (sm : Int) + ((ty : Int) - (ta : Int)) else (m : Int)) = M := ⟨_, rfl⟩
                go_quiet (first | (go_at_call 63; first | exact quiet_left (RY.out _ (((NK.refl 102 _).alloc _).drewN _)) | exact quiet_left (RA.out _ (((NK.refl 102 _).alloc _).drewN _)) | exact quiet_add_left (RY.out _ (((NK.refl 102 _).alloc _).drewN _)) | exact quiet_add_left (RA.out _ (((NK.refl 102 _).alloc _).drewN _))))
                go_wp2
                go_roundw
                case rel =>
                  refine FolRel.next (s' := ⟨s.pc + 1, upd s.r a .nil⟩) (a := a) (t := .nil) (pt := none) ha hjlt hbd (by have := HTY.out; omega) HRL.out hrr hR hss hG hbel (by decide) (below_drewN ((Below.refl _ _).alloc (Nat.le_refl _) _) _) (Rep.drewN (show Rep 102 _ none .nil from rfl) _) (by rw [← HPC.out]; exact hpcq) (HST.out.trans (by simp only [step1]; rw [HSR.out]; rfl)) rfl (by have := HPC.out; show s.pc + 1 ≤ n; omega) HF.out hm (by have := HPC.out; simp; omega) (by have h1 := HSM.out; have h2 := HTY.out; have h3 := HTA.out; omega) (by first | (rw [← hM]; split <;> omega) | (split <;> omega))
                case measure => simp [intOf]; omega
              | pair t1 t2 =>
                rw [hsr] at rb hbb
                obtain ⟨gn, p1, p2, rfl, hbn, rh1, rh2⟩ := rb
                have hltn : gn < wr.heap.size := hbn.lt
                have n0 : wr.cell? ⟨gn, 0, none⟩ = some (.pointer p1) := by rw [hbn.cell]; rfl
                have n1 : wr.cell? ⟨gn, 1, none⟩ = some (.pointer p2) := by rw [hbn.cell]; rfl
                simp only [T.size] at hbb
                have HSR := hide hsr
                clear hsr
                go_wp2_with fail
                obtain ⟨ty, hty⟩ : ∃ ty, ty = (t1 : T).size := ⟨_, rfl⟩
                obtain ⟨ta, hta⟩ : ∃ ta, ta = (s.r a).size := ⟨_, rfl⟩
                have ry' := fun (W : World) (hW : NK 102 wr W) => (size_any W _ _ (rh1.kept hW))
                have ra' := fun (W : World) (hW : NK 102 wr W) => (size_any W _ _ (ra.kept hW))
                rw [← hty] at ry'
                rw [← hta] at ra'
                have hty1 : ty ≤ 100000000 := by rw [hty]; first | omega | (simp only [T.size]; have hz3 := HZB.out; have hz4 := HZC.out; have hz5 := HD.out; omega) | simp [T.size]
                have hta1 : ta ≤ 100000000 := by rw [hta]; exact hbd a
                have RY := hide ry'
                have RA := hide ra'
                have HTY := hide hty
                have HTA := hide hta
                clear ry' ra' hty hta
                have w1 : IntKind.i64.wrap ((ty : Int) - (ta : Int)) = (ty : Int) - (ta : Int) := by rw [IntKind.wrap_i64]; omega
                have w2 : IntKind.i64.wrap ((sm : Int) + ((ty : Int) - (ta : Int))) = (sm : Int) + ((ty : Int) - (ta : Int)) := by rw [IntKind.wrap_i64]; omega
                obtain ⟨M, hM⟩ : ∃ M, (if (m : Int) < (sm : Int) + ((ty : Int) - (ta : Int)) then (sm : Int) + ((ty : Int) - (ta : Int)) else (m : Int)) = M := ⟨_, rfl⟩
                go_quiet (first | (go_at_call 63; first | exact quiet_left (RY.out _ (((NK.refl 102 _).alloc _).drewN _)) | exact quiet_left (RA.out _ (((NK.refl 102 _).alloc _).drewN _)) | exact quiet_add_left (RY.out _ (((NK.refl 102 _).alloc _).drewN _)) | exact quiet_add_left (RA.out _ (((NK.refl 102 _).alloc _).drewN _))))
                go_wp2
                go_roundw
                case rel =>
                  refine FolRel.next (s' := ⟨s.pc + 1, upd s.r a t1⟩) (a := a) (t := t1) (pt := p1) ha hjlt hbd (by have := HTY.out; omega) HRL.out hrr hR hss hG hbel (by decide) (below_drewN ((Below.refl _ _).alloc (Nat.le_refl _) _) _) (Rep.drewN (rh1.alloc _) _) (by rw [← HPC.out]; exact hpcq) (HST.out.trans (by simp only [step1]; rw [HSR.out]; rfl)) rfl (by have := HPC.out; show s.pc + 1 ≤ n; omega) HF.out hm (by have := HPC.out; simp; omega) (by have h1 := HSM.out; have h2 := HTY.out; have h3 := HTA.out; omega) (by first | (rw [← hM]; split <;> omega) | (split <;> omega))
                case measure => simp [intOf]; omega
            | tail a b =>
              obtain ⟨ha, hb'⟩ := hwf
              simp only [I.enc] at c0 c1 c2 c3 c4
              obtain ⟨va, ka, ra⟩ := Fol.reg_ (a := a) ha hrr hR
              have fa := hR.frozen a
              have ia : (0 : Int) ≤ (a : Int) := by omega
              have la : (a : Int) < 32 := by omega
              obtain ⟨vb, kb, rb⟩ := Fol.reg_ (a := b) hb' hrr hR
              have fb := hR.frozen b
              have ib : (0 : Int) ≤ (b : Int) := by omega
              have lb : (b : Int) < 32 := by omega
              have hbb := hbd b
              cases hsr : s.r b with
              | nil =>
                rw [hsr] at rb
                have e : vb = none := rb
                subst e
                have HSR := hide hsr
                clear hsr
                go_wp2_with fail
                obtain ⟨ty, hty⟩ : ∃ ty, ty = (.nil : T).size := ⟨_, rfl⟩
                obtain ⟨ta, hta⟩ : ∃ ta, ta = (s.r a).size := ⟨_, rfl⟩
                have ry' := fun (W : World) (hW : NK 102 wr W) => (size_any W _ _ ((show Rep 102 wr none .nil from rfl).kept hW))
                have ra' := fun (W : World) (hW : NK 102 wr W) => (size_any W _ _ (ra.kept hW))
                rw [← hty] at ry'
                rw [← hta] at ra'
                have hty1 : ty ≤ 100000000 := by rw [hty]; first | omega | (simp only [T.size]; have hz3 := HZB.out; have hz4 := HZC.out; have hz5 := HD.out; omega) | simp [T.size]
                have hta1 : ta ≤ 100000000 := by rw [hta]; exact hbd a
                have RY := hide ry'
                have RA := hide ra'
                have HTY := hide hty
                have HTA := hide hta
                clear ry' ra' hty hta
                have w1 : IntKind.i64.wrap ((ty : Int) - (ta : Int)) = (ty : Int) - (ta : Int) := by rw [IntKind.wrap_i64]; omega
                have w2 : IntKind.i64.wrap ((sm : Int) + ((ty : Int) - (ta : Int))) = (sm : Int) + ((ty : Int) - (ta : Int)) := by rw [IntKind.wrap_i64]; omega
                obtain ⟨M, hM⟩ : ∃ M, (if (m : Int) < (sm : Int) + ((ty : Int) - (ta : Int)) then (sm : Int) + ((ty : Int) - (ta : Int)) else (m : Int)) = M := ⟨_, rfl⟩
                go_quiet (first | (go_at_call 63; first | exact quiet_left (RY.out _ (((NK.refl 102 _).alloc _).drewN _)) | exact quiet_left (RA.out _ (((NK.refl 102 _).alloc _).drewN _)) | exact quiet_add_left (RY.out _ (((NK.refl 102 _).alloc _).drewN _)) | exact quiet_add_left (RA.out _ (((NK.refl 102 _).alloc _).drewN _))))
                go_wp2
                go_roundw
                case rel =>
                  refine FolRel.next (s' := ⟨s.pc + 1, upd s.r a .nil⟩) (a := a) (t := .nil) (pt := none) ha hjlt hbd (by have := HTY.out; omega) HRL.out hrr hR hss hG hbel (by decide) (below_drewN ((Below.refl _ _).alloc (Nat.le_refl _) _) _) (Rep.drewN (show Rep 102 _ none .nil from rfl) _) (by rw [← HPC.out]; exact hpcq) (HST.out.trans (by simp only [step1]; rw [HSR.out]; rfl)) rfl (by have := HPC.out; show s.pc + 1 ≤ n; omega) HF.out hm (by have := HPC.out; simp; omega) (by have h1 := HSM.out; have h2 := HTY.out; have h3 := HTA.out; omega) (by first | (rw [← hM]; split <;> omega) | (split <;> omega))
                case measure => simp [intOf]; omega
              | pair t1 t2 =>
                rw [hsr] at rb hbb
                obtain ⟨gn, p1, p2, rfl, hbn, rh1, rh2⟩ := rb
                have hltn : gn < wr.heap.size := hbn.lt
                have n0 : wr.cell? ⟨gn, 0, none⟩ = some (.pointer p1) := by rw [hbn.cell]; rfl
                have n1 : wr.cell? ⟨gn, 1, none⟩ = some (.pointer p2) := by rw [hbn.cell]; rfl
                simp only [T.size] at hbb
                have HSR := hide hsr
                clear hsr
                go_wp2_with fail
                obtain ⟨ty, hty⟩ : ∃ ty, ty = (t2 : T).size := ⟨_, rfl⟩
                obtain ⟨ta, hta⟩ : ∃ ta, ta = (s.r a).size := ⟨_, rfl⟩
                have ry' := fun (W : World) (hW : NK 102 wr W) => (size_any W _ _ (rh2.kept hW))
                have ra' := fun (W : World) (hW : NK 102 wr W) => (size_any W _ _ (ra.kept hW))
                rw [← hty] at ry'
                rw [← hta] at ra'
                have hty1 : ty ≤ 100000000 := by rw [hty]; first | omega | (simp only [T.size]; have hz3 := HZB.out; have hz4 := HZC.out; have hz5 := HD.out; omega) | simp [T.size]
                have hta1 : ta ≤ 100000000 := by rw [hta]; exact hbd a
                have RY := hide ry'
                have RA := hide ra'
                have HTY := hide hty
                have HTA := hide hta
                clear ry' ra' hty hta
                have w1 : IntKind.i64.wrap ((ty : Int) - (ta : Int)) = (ty : Int) - (ta : Int) := by rw [IntKind.wrap_i64]; omega
                have w2 : IntKind.i64.wrap ((sm : Int) + ((ty : Int) - (ta : Int))) = (sm : Int) + ((ty : Int) - (ta : Int)) := by rw [IntKind.wrap_i64]; omega
                obtain ⟨M, hM⟩ : ∃ M, (if (m : Int) < (sm : Int) + ((ty : Int) - (ta : Int)) then (sm : Int) + ((ty : Int) - (ta : Int)) else (m : Int)) = M := ⟨_, rfl⟩
                go_quiet (first | (go_at_call 63; first | exact quiet_left (RY.out _ (((NK.refl 102 _).alloc _).drewN _)) | exact quiet_left (RA.out _ (((NK.refl 102 _).alloc _).drewN _)) | exact quiet_add_left (RY.out _ (((NK.refl 102 _).alloc _).drewN _)) | exact quiet_add_left (RA.out _ (((NK.refl 102 _).alloc _).drewN _))))
                go_wp2
                go_roundw
                case rel =>
                  refine FolRel.next (s' := ⟨s.pc + 1, upd s.r a t2⟩) (a := a) (t := t2) (pt := p2) ha hjlt hbd (by have := HTY.out; omega) HRL.out hrr hR hss hG hbel (by decide) (below_drewN ((Below.refl _ _).alloc (Nat.le_refl _) _) _) (Rep.drewN (rh2.alloc _) _) (by rw [← HPC.out]; exact hpcq) (HST.out.trans (by simp only [step1]; rw [HSR.out]; rfl)) rfl (by have := HPC.out; show s.pc + 1 ≤ n; omega) HF.out hm (by have := HPC.out; simp; omega) (by have h1 := HSM.out; have h2 := HTY.out; have h3 := HTA.out; omega) (by first | (rw [← hM]; split <;> omega) | (split <;> omega))
                case measure => simp [intOf]; omega
            | jump a d =>
              obtain ⟨ha, hd1, hd2⟩ := hwf
              have hd2' : d ≤ (n : Int) - (pc : Int) := by have := HNQ.out; omega
              clear hd2
              simp only [I.enc] at c0 c1 c2 c3 c4
              obtain ⟨va, ka, ra⟩ := Fol.reg_ (a := a) ha hrr hR
              have fa := hR.frozen a
              have ia : (0 : Int) ≤ (a : Int) := by omega
              have la : (a : Int) < 32 := by omega
              have hba := hbd a
              have hua : s.r = upd s.r a (s.r a) := by funext i; unfold upd; split <;> simp_all
              have HUA := hide hua
              clear hua
              cases hsr : s.r a with
              | nil =>
                have ra0 : Rep 102 wr va (s.r a) := ra
                rw [hsr] at ra0
                have e : va = none := ra0
                subst e
                have HSR := hide hsr
                clear hsr ra0
                go_wp2_with fail
                obtain ⟨ty, hty⟩ : ∃ ty, ty = (s.r a : T).size := ⟨_, rfl⟩
                obtain ⟨ta, hta⟩ : ∃ ta, ta = (s.r a).size := ⟨_, rfl⟩
                have ry' := fun (W : World) (hW : NK 102 wr W) => (size_any W _ _ (ra.kept hW))
                have ra' := fun (W : World) (hW : NK 102 wr W) => (size_any W _ _ (ra.kept hW))
                rw [← hty] at ry'
                rw [← hta] at ra'
                have hty1 : ty ≤ 100000000 := by rw [hty]; first | omega | (simp only [T.size]; have hz3 := HZB.out; have hz4 := HZC.out; have hz5 := HD.out; omega) | simp [T.size]
                have hta1 : ta ≤ 100000000 := by rw [hta]; exact hbd a
                have RY := hide ry'
                have RA := hide ra'
                have HTY := hide hty
                have HTA := hide hta
                clear ry' ra' hty hta
                have w1 : IntKind.i64.wrap ((ty : Int) - (ta : Int)) = (ty : Int) - (ta : Int) := by rw [IntKind.wrap_i64]; omega
                have w2 : IntKind.i64.wrap ((sm : Int) + ((ty : Int) - (ta : Int))) = (sm : Int) + ((ty : Int) - (ta : Int)) := by rw [IntKind.wrap_i64]; omega
                obtain ⟨M, hM⟩ : ∃ M, (if (m : Int) < (sm : Int) + ((ty : Int) - (ta : Int)) then (sm : Int) + ((ty : Int) - (ta : Int)) else (m : Int)) = M := ⟨_, rfl⟩
                go_quiet (first | (go_at_call 63; first | exact quiet_left (RY.out _ (((NK.refl 102 _).alloc _).drewN _)) | exact quiet_left (RA.out _ (((NK.refl 102 _).alloc _).drewN _)) | exact quiet_add_left (RY.out _ (((NK.refl 102 _).alloc _).drewN _)) | exact quiet_add_left (RA.out _ (((NK.refl 102 _).alloc _).drewN _))))
                go_wp2
                go_roundw
                case rel =>
                  refine FolRel.next (s' := ⟨s.pc + 1, s.r⟩) (a := a) (t := s.r a) (pt := none) ha hjlt hbd (by have := HTY.out; omega) HRL.out hrr hR hss hG hbel (by decide) (below_drewN ((Below.refl _ _).alloc (Nat.le_refl _) _) _) (Rep.drewN (ra.alloc _) _) (by rw [← HPC.out]; exact hpcq) (HST.out.trans (by simp only [step1]; rw [if_pos HSR.out])) HUA.out (by have := HPC.out; show s.pc + 1 ≤ n; omega) HF.out hm (by have := HPC.out; simp; omega) (by have h1 := HSM.out; have h2 := HTY.out; have h3 := HTA.out; omega) (by first | (rw [← hM]; split <;> omega) | (split <;> omega))
                case measure => simp [intOf]; omega
              | pair t1 t2 =>
                have ra0 : Rep 102 wr va (s.r a) := ra
                rw [hsr] at ra0
                obtain ⟨gn, p1, p2, rfl, _, _, _⟩ := ra0
                have HSR := hide hsr
                clear hsr
                go_wp2_with fail
                obtain ⟨ty, hty⟩ : ∃ ty, ty = (s.r a : T).size := ⟨_, rfl⟩
                obtain ⟨ta, hta⟩ : ∃ ta, ta = (s.r a).size := ⟨_, rfl⟩
                have ry' := fun (W : World) (hW : NK 102 wr W) => (size_any W _ _ (ra.kept hW))
                have ra' := fun (W : World) (hW : NK 102 wr W) => (size_any W _ _ (ra.kept hW))
                rw [← hty] at ry'
                rw [← hta] at ra'
                have hty1 : ty ≤ 100000000 := by rw [hty]; first | omega | (simp only [T.size]; have hz3 := HZB.out; have hz4 := HZC.out; have hz5 := HD.out; omega) | simp [T.size]
                have hta1 : ta ≤ 100000000 := by rw [hta]; exact hbd a
                have RY := hide ry'
                have RA := hide ra'
                have HTY := hide hty
                have HTA := hide hta
                clear ry' ra' hty hta
                have w1 : IntKind.i64.wrap ((ty : Int) - (ta : Int)) = (ty : Int) - (ta : Int) := by rw [IntKind.wrap_i64]; omega
                have w2 : IntKind.i64.wrap ((sm : Int) + ((ty : Int) - (ta : Int))) = (sm : Int) + ((ty : Int) - (ta : Int)) := by rw [IntKind.wrap_i64]; omega
                obtain ⟨M, hM⟩ : ∃ M, (if (m : Int) < (sm : Int) + ((ty : Int) - (ta : Int)) then (sm : Int) + ((ty : Int) - (ta : Int)) else (m : Int)) = M := ⟨_, rfl⟩
                go_quiet (first | (go_at_call 63; first | exact quiet_left (RY.out _ (((NK.refl 102 _).alloc _).drewN _)) | exact quiet_left (RA.out _ (((NK.refl 102 _).alloc _).drewN _)) | exact quiet_add_left (RY.out _ (((NK.refl 102 _).alloc _).drewN _)) | exact quiet_add_left (RA.out _ (((NK.refl 102 _).alloc _).drewN _))))
                go_wp2
                go_roundw
                case rel =>
                  refine FolRel.next (s' := ⟨((s.pc : Int) + d).toNat, s.r⟩) (a := a) (t := s.r a) (pt := (some ⟨gn, 0, none⟩)) ha hjlt hbd (by have := HTY.out; omega) HRL.out hrr hR hss hG hbel (by decide) (below_drewN ((Below.refl _ _).alloc (Nat.le_refl _) _) _) (Rep.drewN (ra.alloc _) _) (by rw [← HPC.out]; exact hpcq) (HST.out.trans (by simp only [step1]; rw [if_neg (by rw [HSR.out]; simp)])) HUA.out (by have := HPC.out; show ((s.pc : Int) + d).toNat ≤ n; omega) HF.out hm (by have := HPC.out; simp only; omega) (by have h1 := HSM.out; have h2 := HTY.out; have h3 := HTA.out; omega) (by first | (rw [← hM]; split <;> omega) | (split <;> omega))
                case measure => simp [intOf]; omega
            | cons a b c =>
              obtain ⟨ha, hb', hc'⟩ := hwf
              simp only [I.enc] at c0 c1 c2 c3 c4
              obtain ⟨va, ka, ra⟩ := Fol.reg_ (a := a) ha hrr hR
              have fa := hR.frozen a
              have ia : (0 : Int) ≤ (a : Int) := by omega
              have la : (a : Int) < 32 := by omega
              obtain ⟨vb, kb, rb⟩ := Fol.reg_ (a := b) hb' hrr hR
              have fb := hR.frozen b
              have ib : (0 : Int) ≤ (b : Int) := by omega
              have lb : (b : Int) < 32 := by omega
              obtain ⟨vc, kc, rc⟩ := Fol.reg_ (a := c) hc' hrr hR
              have fc := hR.frozen c
              have ic : (0 : Int) ≤ (c : Int) := by omega
              have lc : (c : Int) < 32 := by omega
              have hbb := hbd b
              have hbc := hbd c
              obtain ⟨zb, hzb⟩ : ∃ zb, zb = (s.r b).size := ⟨_, rfl⟩
              obtain ⟨zc, hzc⟩ : ∃ zc, zc = (s.r c).size := ⟨_, rfl⟩
              have rb' := fun (W : World) (hW : NK 102 wr W) => (size_any W _ _ (rb.kept hW))
              have rc' := fun (W : World) (hW : NK 102 wr W) => (size_any W _ _ (rc.kept hW))
              rw [← hzb] at rb' hbb
              rw [← hzc] at rc' hbc
              have RB := hide rb'
              have RC := hide rc'
              have HZB := hide hzb
              have HZC := hide hzc
              clear rb' rc' hzb hzc
              have y1 : IntKind.i64.wrap ((zb : Int) + (zc : Int)) = (zb : Int) + (zc : Int) := by rw [IntKind.wrap_i64]; omega
              by_cases hlarge : (zb : Int) + (zc : Int) < 2000000
              · skip
                have hd : decide ((2000000 : Int) ≤ (zb : Int) + (zc : Int)) = false := decide_eq_false (by omega)
                have hd2 : decide (2000000 ≤ zb + zc) = false := decide_eq_false (by omega)
                have HD := hide hlarge
                clear hlarge
                go_wp2_with fail
                go_quiet (first | (go_at_call 63; first | exact quiet_left (RB.out _ (((NK.refl 102 _).alloc _).drewN _)) | exact quiet_left (RC.out _ (((NK.refl 102 _).alloc _).drewN _))))
                go_wp2_with fail
                have rbk := fun (W : World) (hW : NK 102 wr W) => rb.kept hW
                have rck := fun (W : World) (hW : NK 102 wr W) => rc.kept hW
                have hbs : (s.r b).size + (s.r c).size ≤ 1000000000000000 := by rw [← HZB.out, ← HZC.out]; omega
                go_region_held3 (fun w' => w'.cell? ⟨w.heap.size, b, none⟩ = some (.pointer vb) ∧ w'.cell? ⟨w.heap.size, c, none⟩ = some (.pointer vc) ∧ w'.cell? ⟨wr.heap.size, 2, none⟩ = some (.int .i64 b) ∧ w'.cell? ⟨wr.heap.size, 3, none⟩ = some (.int .i64 c)) (go_keep) (first | (go_at_call 25; refine (pair_any _ vb vc (s.r b) (s.r c) (rbk _ (((NK.refl 102 _).alloc _).drewN _)) (rck _ (((NK.refl 102 _).alloc _).drewN _)) hbs).mono ?_; rintro e w' ⟨rfl, rfl⟩))
                have hnew := fun (W : World) (h1 : NK 102 wr W) (h2 : W.heap.size = wr.heap.size + 1) => (show Rep 102 (W.alloc (.cells #[.pointer vb, .pointer vc, .int .i64 (T.pair (s.r b) (s.r c)).size] 102)) (some ⟨wr.heap.size + 1, 0, none⟩) (.pair (s.r b) (s.r c)) from h2 ▸ Rep.pair_new (rbk W h1) (rck W h1))
                go_wp2_with fail
                obtain ⟨ty, hty⟩ : ∃ ty, ty = (.pair (s.r b) (s.r c) : T).size := ⟨_, rfl⟩
                obtain ⟨ta, hta⟩ : ∃ ta, ta = (s.r a).size := ⟨_, rfl⟩
                have ry' := fun (W : World) (hW : Rep 102 W (some ⟨wr.heap.size + 1, 0, none⟩) (.pair (s.r b) (s.r c))) => (size_any W _ _ hW)
                have ra' := fun (W : World) (hW : NK 102 wr W) => (size_any W _ _ (ra.kept hW))
                rw [← hty] at ry'
                rw [← hta] at ra'
                have hty1 : ty ≤ 100000000 := by rw [hty]; first | omega | (simp only [T.size]; have hz3 := HZB.out; have hz4 := HZC.out; have hz5 := HD.out; omega) | simp [T.size]
                have hta1 : ta ≤ 100000000 := by rw [hta]; exact hbd a
                have RY := hide ry'
                have RA := hide ra'
                have HTY := hide hty
                have HTA := hide hta
                clear ry' ra' hty hta
                have w1 : IntKind.i64.wrap ((ty : Int) - (ta : Int)) = (ty : Int) - (ta : Int) := by rw [IntKind.wrap_i64]; omega
                have w2 : IntKind.i64.wrap ((sm : Int) + ((ty : Int) - (ta : Int))) = (sm : Int) + ((ty : Int) - (ta : Int)) := by rw [IntKind.wrap_i64]; omega
                obtain ⟨M, hM⟩ : ∃ M, (if (m : Int) < (sm : Int) + ((ty : Int) - (ta : Int)) then (sm : Int) + ((ty : Int) - (ta : Int)) else (m : Int)) = M := ⟨_, rfl⟩
                go_quiet (first | (go_at_call 63; first | exact quiet_left (RY.out _ (Rep.drewN (hnew _ (((NK.refl 102 _).alloc _).drewN _) (by simp)) _)) | exact quiet_left (RA.out _ (((((NK.refl 102 _).alloc _).drewN _).alloc _).drewN _)) | exact quiet_add_left (RY.out _ (Rep.drewN (hnew _ (((NK.refl 102 _).alloc _).drewN _) (by simp)) _)) | exact quiet_add_left (RA.out _ (((((NK.refl 102 _).alloc _).drewN _).alloc _).drewN _))))
                go_wp2
                go_roundw
                case rel =>
                  refine FolRel.next (s' := ⟨s.pc + 1, upd s.r a (.pair (s.r b) (s.r c))⟩) (a := a) (t := .pair (s.r b) (s.r c)) (pt := (some ⟨wr.heap.size + 1, 0, none⟩)) ha hjlt hbd (by have := HTY.out; omega) HRL.out hrr hR hss hG hbel (by decide) (below_drewN (((below_drewN (((Below.refl _ _).alloc (Nat.le_refl _) _)) _).alloc (by simp) _)) _) (Rep.drewN (hnew _ (((NK.refl 102 _).alloc _).drewN _) (by simp)) _) (by rw [← HPC.out]; exact hpcq) (HST.out.trans (by simp only [step1]; rw [if_pos (by rw [← HZB.out, ← HZC.out]; have := HD.out; unfold MaxT; omega)])) rfl (by have := HPC.out; show s.pc + 1 ≤ n; omega) HF.out hm (by have := HPC.out; simp; omega) (by have h1 := HSM.out; have h2 := HTY.out; have h3 := HTA.out; omega) (by first | (rw [← hM]; split <;> omega) | (split <;> omega))
                case measure => simp [intOf]; omega
              · skip
                have hd : decide ((2000000 : Int) ≤ (zb : Int) + (zc : Int)) = true := decide_eq_true (by omega)
                have hd2 : decide (2000000 ≤ zb + zc) = true := decide_eq_true (by omega)
                have HRES := hide (Fol.large (by rw [← HPC.out]; exact hpcq) hjlt (HST.out.trans (by simp only [step1]; rw [if_neg (by rw [← HZB.out, ← HZC.out]; unfold MaxT; omega)])) HF.out)
                clear hlarge
                go_wp2_with fail
                go_quiet (first | (go_at_call 63; first | exact quiet_left (RB.out _ (((NK.refl 102 _).alloc _).drewN _)) | exact quiet_left (RC.out _ (((NK.refl 102 _).alloc _).drewN _))))
                go_wp2
                refine bodyPost_ret (results_tmp4 rfl _ _ _) rfl ?_
                exact ⟨none, _, _, by rw [HRES.out]; rfl, below_drewN (hbel.alloc hsz _) _, by rw [HRES.out]; exact ⟨rfl, rfl, rfl⟩⟩
end Go.Proofs.Ytgbieakahgkkpaa
