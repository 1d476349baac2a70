import Derived.Test.YtgbieakahgkkpaaTopJ
import Derived.Test.YtgbieakahgkkpaaLoop
import Derived.WalkKit
import Derived.WalkSpells
import Derived.WalkLawsBesides
import Derived.Outline
import Derived.KernelRfl
import Derived.Deep.QuietTactic
import Derived.BigQuiet
namespace Go.Proofs.Ytgbieakahgkkpaa
open Go.RowKit

theorem goodP_i64 {p : List Ins} {m c : Nat} (h : goodP p m c) (hm : m ≤ 100000000) (hc : c ≤ 100000000) : ∀ x ∈ p, x.I64 := by
  intro x hx
  obtain ⟨i, hi, rfl⟩ := List.mem_iff_getElem.1 hx
  have ho := h.2.2 i _ (List.getElem?_eq_getElem hi)
  have hl := h.1
  have hs : (p[i]).tree.size ≤ treeSum p := by
    unfold treeSum
    exact le_sum _ _ (List.mem_map.2 ⟨_, hx, rfl⟩)
  have := h.2.1
  unfold okIns reg at ho
  simp only [Ins.I64, Ytgbieakahgkkpaa.I64]
  obtain ⟨⟨h1, h2⟩, h3, h4, h5⟩ := ho
  refine ⟨?_, by omega, ?_, ?_, by omega⟩ <;> (rcases h5 with h5 | h5 | h5 | h5 <;> omega)

theorem FVs.two {w : World} {c p : PV} (hc : PMem w w.heap.size c.A c.n c.p) (hp : PMem w w.heap.size p.A p.n p.p) (h1 : ∀ x ∈ c.p, x.I64) (h2 : ∀ x ∈ p.p, x.I64) :
    FVs (w.alloc (.cells #[c.val, p.val] 23)) (w.alloc (.cells #[c.val, p.val] 23)).heap.size w.heap.size [c, p] := by
  have hb := Blk.new w 23 #[c.val, p.val]
  refine ⟨by simp, fun i v hv => ?_⟩
  match i, hv with
  | 0, hv => simp at hv; subst hv; exact ⟨by rw [hb.cell]; rfl, (hc.alloc (Nat.le_refl _) _).more (by simp), h1⟩
  | 1, hv => simp at hv; subst hv; exact ⟨by rw [hb.cell]; rfl, (hp.alloc (Nat.le_refl _) _).more (by simp), h2⟩

theorem small_dec {p : List Ins} (h : smallP p) : ∃ q, p = encP q ∧ WF q ∧ q.length ≤ 60 ∧ charsOf q ≤ 2000 ∧ regsOf q ≤ 28 := by
  obtain ⟨q, rfl, h1, h2, h3⟩ := goodP_iff.1 h.1
  refine ⟨q, rfl, h1, h2, h3, ?_⟩
  have := h.2
  rw [regsMax_enc] at this
  unfold regsOf; omega
theorem growSpec_size {s : ByteArray} {most : Nat} {t : T} (h : growSpec s most = some t) : t.size ≤ most := by
  unfold growSpec at h
  split at h
  · cases h
  · have := parse_size h
    rw [Array.length_toList] at this
    have e : s.data.size = s.size := rfl
    omega

set_option maxHeartbeats 4000000 in
set_option maxRecDepth 100000 in
theorem looped_any (w : World) (cA pA : Option Addr) (cn cc pn pc : Nat) (cp pp : List Ins) (hc : PMem w w.heap.size cA cn cp) (hp : PMem w w.heap.size pA pn pp) (hci : ∀ x ∈ cp, x.I64) (hpi : ∀ x ∈ pp, x.I64) (s : ByteArray) :
    Calls Try.prog 5 #[.slice cA cn cc, .slice pA pn pc, .string s] w fun e w' => e = .returned (.bool true) ∧ Below w.heap.size w w' := by
  obtain ⟨O, hO⟩ : ∃ O, growSpec s 2000 = O := ⟨_, rfl⟩
  have hgrow := grow_any s 2000 w (by omega)
  rw [hO] at hgrow
  have hOs : ∀ t, O = some t → t.size ≤ 2000 := fun t ht => growSpec_size (by rw [← ht]; exact hO)
  have HGR := hide hgrow
  have HOS := hide hOs
  have HF : Hid (∀ w1 : World, Below w.heap.size w w1 → Calls Try.prog 35 #[.slice (some ⟨w1.heap.size, 0, none⟩) 2 2] (w1.alloc (.cells #[.slice cA cn cc, .slice pA pn pc] 23)) fun e w' =>
      ∃ b, e = .returned (.bool b) ∧ (b = true → smallP cp ∧ smallP pp) ∧ Below w1.heap.size w1 w') := hide (fun w1 hb => by
    have h := few_any _ w1.heap.size 2 2 [⟨cA, cn, cc, cp⟩, ⟨pA, pn, pc, pp⟩] rfl (by omega) (FVs.two ((hc.below hb).more hb.size) ((hp.below hb).more hb.size) hci hpi)
    refine h.mono ?_
    rintro e w' ⟨b, rfl, hb', hbel⟩
    exact ⟨b, rfl, fun e => ⟨hb'.1 e 0 _ rfl, hb'.1 e 1 _ rfl⟩, ((Below.refl _ _).alloc (Nat.le_refl _) _).trans (hbel.mono (by simp))⟩)
  have HC := hide hc
  have HP := hide hp
  clear hO hgrow hOs hc hp hci hpi
  go_enter Try.func5, Try.ntmps5
  go_wp2_with fail
  refine HGR.out.mono ?_; rintro e w1 ⟨p1, rfl, hb1, _, hx⟩
  have HX := hide hx
  clear hx HGR
  cases O with
  | none =>
    go_wp2_with fail
    refine (HF.out w1 hb1).mono ?_; rintro e w2 ⟨b, rfl, _, hb2⟩
    cases b <;> (
      go_wp2_with fail
      refine (composes_any w2).mono ?_; rintro e w3 ⟨rfl, hb3⟩
      go_wp2
      go_ret
      exact ⟨rfl, (hb1.trans (hb2.mono hb1.size)).trans (hb3.mono (Nat.le_trans hb1.size hb2.size))⟩)
  | some x =>
    go_wp2_with fail
    refine (HF.out w1 hb1).mono ?_; rintro e w2 ⟨b, rfl, hsm, hb2⟩
    cases b with
    | false =>
      go_wp2_with fail
      refine (composes_any w2).mono ?_; rintro e w3 ⟨rfl, hb3⟩
      go_wp2
      go_ret
      exact ⟨rfl, (hb1.trans (hb2.mono hb1.size)).trans (hb3.mono (Nat.le_trans hb1.size hb2.size))⟩
    | true =>
      obtain ⟨hs1, hs2⟩ := hsm rfl
      have HS1 := hide hs1.1
      have HS2 := hide hs2.1
      obtain ⟨c, rfl, cw, cl, ch, cr⟩ := small_dec hs1
      obtain ⟨p, rfl, pw, pl, ph, pr⟩ := small_dec hs2
      have HXR := hide ((HX.out x rfl).below hb2)
      have hxs := HOS.out x rfl
      have F2 := hb1.trans (hb2.mono hb1.size)
      have hcn : cn ≤ 60 := by rw [HC.out.1, encP_length]; exact cl
      have hpn : pn ≤ 60 := by rw [HP.out.1, encP_length]; exact pl
      clear HX HOS hsm hs1 hs2 HF hb1 hb2
      obtain ⟨mc, hmc⟩ : ∃ m, m = regsOf c := ⟨_, rfl⟩
      obtain ⟨mp, hmp⟩ : ∃ m, m = regsOf p := ⟨_, rfl⟩
      rw [← hmc] at cr
      rw [← hmp] at pr
      have hmc1 : 1 ≤ mc := by rw [hmc]; unfold regsOf; omega
      have hmp1 : 1 ≤ mp := by rw [hmp]; unfold regsOf; omega
      have HMC := hide hmc
      have HMP := hide hmp
      have HREGC : Hid (∀ (u : World), Below w.heap.size w u → Calls Try.prog 39 #[.slice cA cn cc] u fun e w'' => e = .returned (.int .i64 (mc : Nat)) ∧ Below u.heap.size u w'') := hide (fun u hb => by
        have h := regs_any u w.heap.size cn cc cA (encP c) (HC.out.below hb) (by omega) (by have := good_regs HS1.out; omega)
        rw [regsMax_enc, show (mostReg c : Int) + 1 = (mc : Nat) by rw [hmc]; unfold regsOf; omega] at h
        exact h.mono fun e w' ⟨he, k, hk⟩ => ⟨he, hk ▸ below_drewN (Below.refl _ _) k⟩)
      have HREGP : Hid (∀ (u : World), Below w.heap.size w u → Calls Try.prog 39 #[.slice pA pn pc] u fun e w'' => e = .returned (.int .i64 (mp : Nat)) ∧ Below u.heap.size u w'') := hide (fun u hb => by
        have h := regs_any u w.heap.size pn pc pA (encP p) (HP.out.below hb) (by omega) (by have := good_regs HS2.out; omega)
        rw [regsMax_enc, show (mostReg p : Int) + 1 = (mp : Nat) by rw [hmp]; unfold regsOf; omega] at h
        exact h.mono fun e w' ⟨he, k, hk⟩ => ⟨he, hk ▸ below_drewN (Below.refl _ _) k⟩)
      clear hmc hmp
      go_wp2_with fail
      refine (twin_any w2 cn cc cA (encP c) ((HC.out.below F2).more F2.size) (by omega)).mono ?_; rintro e w3 ⟨A3, k3, rfl, o3, hb3⟩
      have F3 := F2.trans (hb3.mono F2.size)
      have q3 := hide (PMem.of_own (p := encP c) HC.out.1 o3)
      go_wp2_with fail
      refine (twin_any w3 pn pc pA (encP p) ((HP.out.below F3).more F3.size) (by omega)).mono ?_; rintro e w4 ⟨A4, k4, rfl, o4, hb4⟩
      have F4 := F3.trans (hb4.mono F3.size)
      have q4 := hide (PMem.of_own (p := encP p) HP.out.1 o4)
      have q3' := hide ((q3.out.below hb4).more hb4.size)
      have b24 := hb3.trans (hb4.mono hb3.size)
      obtain ⟨n, hn⟩ : ∃ n, n = max mc mp := ⟨_, rfl⟩
      have hn28 : n ≤ 28 := by omega
      have hmcn : mc ≤ n := by omega
      have hmpn : mp ≤ n := by omega
      obtain ⟨W, hW⟩ : ∃ W, W = whileI n mc mp c p := ⟨_, rfl⟩
      have heW : whileIns n mc mp (encP c) (encP p) = encP W := by rw [hW]; exact whileIns_enc n mc mp c p hmc1 hmp1
      have hgW : goodP (encP W) 4000 2000000 := by rw [hW]; exact while_good hmc1 hmp1 cw pw hn28 cr pr cl pl ch ph
      have hiW := goodP_i64 hgW (by omega) (by omega)
      have hWH := while_any w4 A3 A4 cn k3 pn k4 (encP c) (encP p) q3'.out q4.out (goodP_i64 HS1.out (by omega) (by omega)) (goodP_i64 HS2.out (by omega) (by omega)) HS1.out HS2.out mc mp n
        (by rw [regsMax_enc, HMC.out]; unfold regsOf; omega) (by rw [regsMax_enc, HMP.out]; unfold regsOf; omega) hn hn28 (by rw [heW]; exact hiW) (by rw [heW]; exact hgW)
      rw [heW] at hWH
      have HWH := hide hWH
      have HGW := hide hgW
      have HIW := hide hiW
      have HW := hide hW
      clear hWH hgW hiW hW heW hn q3 q4 q3' o3 o4 hb3 hb4
      go_wp2_with fail
      refine HWH.out.mono ?_; rintro e w5 ⟨AW, NW, kW, rfl, hpW, hb5⟩
      have F5 := F4.trans (hb5.mono F4.size)
      have HXR5 := hide (HXR.out.below (b24.trans (hb5.mono b24.size)))
      have HPW := hide hpW
      clear hpW HWH hb5 b24 HXR F2 F3 F4
      go_wp2
      go_loopw [11, 12, 13] (fun st y i wr => ∃ (k a : Nat) (py : Option Addr) (ty : T), k ≤ 20 ∧ i = .int .i64 k ∧ st = .int .i64 a ∧ y = .pointer py ∧ Rep 102 wr py ty ∧ ty.size ≤ MaxT ∧ a ≤ k * 800 ∧ LoopAt W x a ty ∧ Below w5.heap.size w5 wr) (fun _ _ i _ => 20 - (intOf i).toNat)
      case atStart => exact ⟨0, 0, _, x, by omega, rfl, rfl, rfl, HXR5.out, by unfold MaxT; omega, by omega, LoopAt.start W x, Below.refl _ _⟩
      case round =>
        obtain ⟨k, a, py, ty, hk, rfl, rfl, rfl, hrep, hts, ha, hat, hb6⟩ := hrel
        have F6 := F5.trans (hb6.mono F5.size)
        have hMT : MaxT = 2000000 := rfl
        have HPC := hide (play_any wr cn cc cA c 300 py ty ((HC.out.below F6).more F6.size) cw (by omega) (by omega) hrep (by omega) (by omega))
        have HPP : Hid (∀ u : World, Below wr.heap.size wr u → Calls Try.prog 24 #[.slice pA pn pc, .pointer py, .int .i64 300] u (PlayPost 102 (play p 300 0 (first ty)) u)) := hide (fun u hb =>
          play_any u pn pc pA p 300 py ty ((HP.out.below (F6.trans (hb.mono F6.size))).more (F6.trans (hb.mono F6.size)).size) pw (by omega) (by omega) (hrep.below hb) (by omega) (by omega))
        have HLAST : Hid (∀ u : World, Below wr.heap.size wr u → (∀ y j, play W 300 0 (first x) ≠ .ended y j) → Calls Try.prog 40 #[.slice AW NW kW, .int .i64 0, .pointer p1, .int .i64 300] u fun e w' => e = .returned (.bool true) ∧ Below u.heap.size u w') := hide (fun u hb hne =>
          lasts_yes u NW kW AW W 300 p1 x ((HPW.out.below (hb6.trans (hb.mono hb6.size))).more (hb6.trans (hb.mono hb6.size)).size) HIW.out HGW.out (HXR5.out.below (hb6.trans (hb.mono hb6.size))) (by omega) (by omega) hne)
        have HRET : Hid (∀ (u : World) (f : Nat) (v : Int), Below wr.heap.size wr u → v = (f : Int) → f ≤ 1000000 → play W f 0 (first x) = .ended ty f → Calls Try.prog 41 #[.slice AW NW kW, .int .i64 0, .pointer p1, .pointer py, .int .i64 v] u fun e w' => e = .returned (.bool true) ∧ Below u.heap.size u w') := hide (fun u f v hb hv hf hpl => by
          subst hv
          exact returns_yes u NW kW AW W f p1 py x ty ((HPW.out.below (hb6.trans (hb.mono hb6.size))).more (hb6.trans (hb.mono hb6.size)).size) HIW.out HGW.out (HXR5.out.below (hb6.trans (hb.mono hb6.size))) (by omega) (hrep.below hb) (by omega) (by omega) hpl)
        have HAT := hide hat
        have HREP := hide hrep
        clear hat hrep
        by_cases hlt : k < 20
        · go_wp2_with fail
          refine HPC.out.mono ?_; rintro e w7 ⟨pz, kz, howz, rfl, hb7, hpost⟩
          have F7 := F6.trans (hb7.mono F6.size)
          cases hpl : play c 300 0 (first ty) with
          | ended z k1 =>
            rw [hpl] at hpost
            obtain ⟨rfl, rfl, hz⟩ := hpost
            have hsz := play_size (by omega) hts hpl
            have hk1 : k1 ≤ 300 := hsz.2
            have HPL := hide hpl
            clear hpl hsz HPC
            go_wp2_with fail
            refine (HREGC.out w7 F7).mono ?_; rintro e w8 ⟨rfl, hb8⟩
            have F8 := F7.trans (hb8.mono F7.size)
            have b8 := hb7.trans (hb8.mono hb7.size)
            have hz8 := hz.below hb8
            clear hz hb7 hb8
            cases z with
            | nil =>
              simp only [Rep] at hz8
              subst hz8
              have hend := loop_ends (p := p) hmc1 hmp1 cw HMC.out hmcn (by rw [← HW.out]; exact HAT.out) HPL.out
              rw [← HW.out] at hend
              have HEND := hide hend
              clear hend
              go_wp2_with fail
              refine (HRET.out w8 (a + (k1 + mc + 1) + 3) _ b8 (by omega) (by omega) HEND.out).mono ?_; rintro e w9 ⟨rfl, hb9⟩
              go_wp2_with fail
              refine (composes_any w9).mono ?_; rintro e w10 ⟨rfl, hb10⟩
              go_wp2
              go_ret
              exact ⟨rfl, (F8.trans (hb9.mono F8.size)).trans (hb10.mono (Nat.le_trans F8.size hb9.size))⟩
            | pair z1 z2 =>
              obtain ⟨gz, pa, pb, rfl, _⟩ := hz8
              clear HRET
              go_wp2_with fail
              refine (HPP.out w8 b8).mono ?_; rintro e w9 ⟨pv, kv, howv, rfl, hb9, hpost⟩
              have F9 := F8.trans (hb9.mono F8.size)
              have b9 := b8.trans (hb9.mono b8.size)
              cases hpl : play p 300 0 (first ty) with
              | ended v k2 =>
                rw [hpl] at hpost
                obtain ⟨rfl, rfl, hv⟩ := hpost
                have hsz := play_size (by omega) hts hpl
                have hk2 : k2 ≤ 300 := hsz.2
                have hvs := hsz.1
                have hnext := loop_next hmc1 hmp1 cw pw HMC.out HMP.out hmcn (by rw [← HW.out]; exact HAT.out) HPL.out (by simp) hpl
                rw [← HW.out] at hnext
                have HN := hide hnext
                clear hnext hpl hsz
                go_wp2_with fail
                refine (HREGP.out w9 F9).mono ?_; rintro e w10 ⟨rfl, hb10⟩
                have hv10 := hv.below hb10
                have b10 := hb6.trans ((b9.trans (hb10.mono b9.size)).mono hb6.size)
                go_wp2
                go_roundw
                case rel => exact ⟨k + 1, a + (k1 + mc + 1) + (k2 + mp + 2), _, v, by omega, by go_num, by go_num, rfl, hv10, hvs, by omega, HN.out, b10⟩
                case measure => simp [intOf]; omega
              | going k2 =>
                rw [hpl] at hpost
                obtain ⟨rfl, rfl, rfl⟩ := hpost
                have hne := loop_p hmc1 hmp1 cw pw HMC.out HMP.out hmcn (by rw [← HW.out]; exact HAT.out) HPL.out (by simp) hpl
                rw [← HW.out] at hne
                have HN := hide hne
                clear hne hpl
                go_wp2_with fail
                refine (HLAST.out w9 b9 HN.out).mono ?_; rintro e w10 ⟨rfl, hb10⟩
                go_wp2_with fail
                refine (composes_any w10).mono ?_; rintro e w11 ⟨rfl, hb11⟩
                go_wp2
                go_ret
                exact ⟨rfl, (F9.trans (hb10.mono F9.size)).trans (hb11.mono (Nat.le_trans F9.size hb10.size))⟩
              | large k2 =>
                rw [hpl] at hpost
                obtain ⟨rfl, rfl, rfl⟩ := hpost
                clear hpl
                go_wp2_with fail
                refine (composes_any w9).mono ?_; rintro e w10 ⟨rfl, hb10⟩
                go_wp2
                go_ret
                exact ⟨rfl, F9.trans (hb10.mono F9.size)⟩
          | going k1 =>
            rw [hpl] at hpost
            obtain ⟨rfl, rfl, rfl⟩ := hpost
            have hne := loop_c hmc1 hmp1 cw HMC.out hmcn (by rw [← HW.out]; exact HAT.out) hpl
            rw [← HW.out] at hne
            have HN := hide hne
            clear hne hpl HPC HPP HRET
            go_wp2_with fail
            refine (HREGC.out w7 F7).mono ?_; rintro e w8 ⟨rfl, hb8⟩
            have F8 := F7.trans (hb8.mono F7.size)
            have b8 := hb7.trans (hb8.mono hb7.size)
            go_wp2_with fail
            refine (HLAST.out w8 b8 HN.out).mono ?_; rintro e w9 ⟨rfl, hb9⟩
            go_wp2_with fail
            refine (composes_any w9).mono ?_; rintro e w10 ⟨rfl, hb10⟩
            go_wp2
            go_ret
            exact ⟨rfl, (F8.trans (hb9.mono F8.size)).trans (hb10.mono (Nat.le_trans F8.size hb9.size))⟩
          | large k1 =>
            rw [hpl] at hpost
            obtain ⟨rfl, rfl, rfl⟩ := hpost
            clear hpl HPC HPP HRET HLAST
            go_wp2_with fail
            refine (HREGC.out w7 F7).mono ?_; rintro e w8 ⟨rfl, hb8⟩
            have F8 := F7.trans (hb8.mono F7.size)
            go_wp2_with fail
            refine (composes_any w8).mono ?_; rintro e w9 ⟨rfl, hb9⟩
            go_wp2
            go_ret
            exact ⟨rfl, F8.trans (hb9.mono F8.size)⟩
        · have hk20 : k = 20 := by omega
          subst hk20
          clear HPC HPP HLAST HRET
          go_wp2_with fail
          refine (whole_yes wr NW kW AW (encP W) ((HPW.out.below hb6).more hb6.size) HIW.out HGW.out).mono ?_; rintro e w7 ⟨rfl, hb7⟩
          go_wp2_with fail
          refine (composes_any w7).mono ?_; rintro e w8 ⟨rfl, hb8⟩
          go_wp2
          go_ret
          exact ⟨rfl, (F6.trans (hb7.mono F6.size)).trans (hb8.mono (Nat.le_trans F6.size hb7.size))⟩
end Go.Proofs.Ytgbieakahgkkpaa
