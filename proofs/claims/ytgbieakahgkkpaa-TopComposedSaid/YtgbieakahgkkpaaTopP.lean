/- TopComposed walked. -/
import Derived.Test.YtgbieakahgkkpaaTopK
import Derived.Test.YtgbieakahgkkpaaBuildG
import Derived.Deep.DeepCutAuto
namespace Go.Proofs.Ytgbieakahgkkpaa
open Go.RowKit
attribute [local go_sem ↓] Go.wp_at_zero Go.wp_at_succ

/-- What is known of a run that has been asked. -/
def PlayRel (r : Out) (w : World) (p : Option Addr) (k how : Int) : Prop := match r with
  | .ended y j => how = 0 ∧ k = j ∧ Rep 102 w p y
  | .going j => how = 1 ∧ k = j ∧ p = none
  | .large j => how = 2 ∧ k = j ∧ p = none
theorem PlayRel.below {r : Out} {w w' : World} {p : Option Addr} {k how : Int} (h : PlayRel r w p k how) (hb : Below w.heap.size w w') : PlayRel r w' p k how := by
  cases r with
  | ended y j => exact ⟨h.1, h.2.1, h.2.2.below hb⟩
  | going j => exact h
  | large j => exact h

theorem FVs.three {w : World} {c p q : PV} (hc : PMem w w.heap.size c.A c.n c.p) (hp : PMem w w.heap.size p.A p.n p.p) (hq : PMem w w.heap.size q.A q.n q.p) (h1 : ∀ x ∈ c.p, x.I64) (h2 : ∀ x ∈ p.p, x.I64) (h3 : ∀ x ∈ q.p, x.I64) :
    FVs (w.alloc (.cells #[c.val, p.val, q.val] 23)) (w.alloc (.cells #[c.val, p.val, q.val] 23)).heap.size w.heap.size [c, p, q] := by
  have hb := Blk.new w 23 #[c.val, p.val, q.val]
  refine ⟨by simp, fun i v hv => ?_⟩
  match i, hv with
  | 0, hv => simp at hv; subst hv; exact ⟨by rw [hb.cell]; rfl, (hc.alloc (Nat.le_refl _) _).more (by simp), h1⟩
  | 1, hv => simp at hv; subst hv; exact ⟨by rw [hb.cell]; rfl, (hp.alloc (Nat.le_refl _) _).more (by simp), h2⟩
  | 2, hv => simp at hv; subst hv; exact ⟨by rw [hb.cell]; rfl, (hq.alloc (Nat.le_refl _) _).more (by simp), h3⟩

set_option maxHeartbeats 8000000 in
set_option maxRecDepth 100000 in
theorem composed_any (w : World) (cA pA qA : Option Addr) (cn cc pn pc qn qc : Nat) (cp pp qp : List Ins) (hc : PMem w w.heap.size cA cn cp) (hp : PMem w w.heap.size pA pn pp) (hq : PMem w w.heap.size qA qn qp) (hci : ∀ x ∈ cp, x.I64) (hpi : ∀ x ∈ pp, x.I64) (hqi : ∀ x ∈ qp, x.I64) (s : ByteArray) :
    Calls Try.prog 13 #[.slice cA cn cc, .slice pA pn pc, .agg #[.slice qA qn qc, .string s]] w fun e w' => e = .returned (.bool true) ∧ Below w.heap.size w w' := by
  obtain ⟨O, hO⟩ : ∃ O, growSpec s 2000 = O := ⟨_, rfl⟩
  have HGR : Hid (∀ W, Calls Try.prog 21 #[.string s, .int .i64 2000] W (Grown_ 102 O W)) := hide (fun W => by have := grow_any s 2000 W (by omega); rw [hO] at this; exact this)
  have HOS : Hid (∀ t, O = some t → t.size ≤ 2000) := hide (fun t ht => growSpec_size (by rw [← ht]; exact hO))
  have HF : Hid (∀ w1 : World, Below w.heap.size w w1 → Calls Try.prog 35 #[.slice (some ⟨w1.heap.size, 0, none⟩) 3 3] (w1.alloc (.cells #[.slice cA cn cc, .slice pA pn pc, .slice qA qn qc] 23)) fun e w' =>
      ∃ b, e = .returned (.bool b) ∧ (b = true → smallP cp ∧ smallP pp ∧ smallP qp) ∧ Below w1.heap.size w1 w') := hide (fun w1 hb => by
    have h := few_any _ w1.heap.size 3 3 [⟨cA, cn, cc, cp⟩, ⟨pA, pn, pc, pp⟩, ⟨qA, qn, qc, qp⟩] rfl (by omega) (FVs.three ((hc.below hb).more hb.size) ((hp.below hb).more hb.size) ((hq.below hb).more hb.size) hci hpi hqi)
    refine h.mono ?_
    rintro e w' ⟨b, rfl, hb', hbel⟩
    exact ⟨b, rfl, fun e => ⟨hb'.1 e 0 _ rfl, hb'.1 e 1 _ rfl, hb'.1 e 2 _ rfl⟩, ((Below.refl _ _).alloc (Nat.le_refl _) _).trans (hbel.mono (by simp))⟩)
  have HC := hide hc
  have HP := hide hp
  have HQ := hide hq
  have F0 : Below w.heap.size w (w.alloc (.cells #[.slice qA qn qc, .string s] 77)) := (Below.refl _ _).alloc (Nat.le_refl _) _
  clear hO hc hp hq hci hpi hqi
  go_enter Try.func13, Try.ntmps13
  go_wp2_with fail
  refine (HGR.out _).mono ?_; rintro e w1 ⟨p1, rfl, hb1, _, hx⟩
  have HX := hide hx
  have F1 := F0.trans (hb1.mono (by simp))
  clear hx HGR F0 hb1
  cases O with
  | none =>
    go_wp2_with fail
    refine (HF.out w1 F1).mono ?_; rintro e w2 ⟨b, rfl, _, hb2⟩
    cases b <;> (
      go_wp2_with fail
      refine (composes_any w2).mono ?_; rintro e w3 ⟨rfl, hb3⟩
      go_wp2
      go_ret
      exact ⟨rfl, (F1.trans (hb2.mono F1.size)).trans (hb3.mono (Nat.le_trans F1.size hb2.size))⟩)
  | some x =>
    go_wp2_with fail
    refine (HF.out w1 F1).mono ?_; rintro e w2 ⟨b, rfl, hsm, hb2⟩
    cases b with
    | false =>
      go_wp2_with fail
      refine (composes_any w2).mono ?_; rintro e w3 ⟨rfl, hb3⟩
      go_wp2
      go_ret
      exact ⟨rfl, (F1.trans (hb2.mono F1.size)).trans (hb3.mono (Nat.le_trans F1.size hb2.size))⟩
    | true =>
      obtain ⟨hs1, hs2, hs3⟩ := hsm rfl
      have HS1 := hide hs1.1
      have HS2 := hide hs2.1
      have HS3 := hide hs3.1
      obtain ⟨c, rfl, cw, cl, ch, cr⟩ := small_dec hs1
      obtain ⟨p, rfl, pw, pl, ph, pr⟩ := small_dec hs2
      obtain ⟨q, rfl, qw, ql, qh, qr⟩ := small_dec hs3
      have HXR := hide ((HX.out x rfl).below hb2)
      have hxs := HOS.out x rfl
      have F2 := F1.trans (hb2.mono F1.size)
      have hcn : cn ≤ 60 := by rw [HC.out.1, encP_length]; exact cl
      have hpn : pn ≤ 60 := by rw [HP.out.1, encP_length]; exact pl
      have hqn : qn ≤ 60 := by rw [HQ.out.1, encP_length]; exact ql
      clear HX HOS hsm hs1 hs2 hs3 HF hb2 F1
      obtain ⟨mc, hmc⟩ : ∃ m, m = regsOf c := ⟨_, rfl⟩
      obtain ⟨mp, hmp⟩ : ∃ m, m = regsOf p := ⟨_, rfl⟩
      obtain ⟨mq, hmq⟩ : ∃ m, m = regsOf q := ⟨_, rfl⟩
      rw [← hmc] at cr
      rw [← hmp] at pr
      rw [← hmq] at qr
      have hmc1 : 1 ≤ mc := by rw [hmc]; unfold regsOf; omega
      have hmp1 : 1 ≤ mp := by rw [hmp]; unfold regsOf; omega
      have hmq1 : 1 ≤ mq := by rw [hmq]; unfold regsOf; omega
      have HMC := hide hmc
      have HMP := hide hmp
      have HMQ := hide hmq
      have HREGP : Hid (∀ (u : World), Below w.heap.size w u → Calls Try.prog 39 #[.slice pA pn pc] u fun e w'' => e = .returned (.int .i64 (mp : Nat)) ∧ Below u.heap.size u w'') := hide (fun u hb => by
        have h := regs_any u w.heap.size pn pc pA (encP p) (HP.out.below hb) (by omega) (by have := good_regs HS2.out; omega)
        rw [regsMax_enc, show (mostReg p : Int) + 1 = (mp : Nat) by rw [hmp]; unfold regsOf; omega] at h
        exact h.mono fun e w' ⟨he, k, hk⟩ => ⟨he, hk ▸ below_drewN (Below.refl _ _) k⟩)
      have HREGQ : Hid (∀ (u : World), Below w.heap.size w u → Calls Try.prog 39 #[.slice qA qn qc] u fun e w'' => e = .returned (.int .i64 (mq : Nat)) ∧ Below u.heap.size u w'') := hide (fun u hb => by
        have h := regs_any u w.heap.size qn qc qA (encP q) (HQ.out.below hb) (by omega) (by have := good_regs HS3.out; omega)
        rw [regsMax_enc, show (mostReg q : Int) + 1 = (mq : Nat) by rw [hmq]; unfold regsOf; omega] at h
        exact h.mono fun e w' ⟨he, k, hk⟩ => ⟨he, hk ▸ below_drewN (Below.refl _ _) k⟩)
      clear hmc hmp hmq
      have HTWC : Hid (∀ u : World, Below w.heap.size w u → Calls Try.prog 38 #[.slice cA cn cc] u (SliceN (encP c) cn u)) := hide (fun u hb => twin_any u cn cc cA (encP c) ((HC.out.below hb).more hb.size) (by omega))
      have HTWP : Hid (∀ u : World, Below w.heap.size w u → Calls Try.prog 38 #[.slice pA pn pc] u (SliceN (encP p) pn u)) := hide (fun u hb => twin_any u pn pc pA (encP p) ((HP.out.below hb).more hb.size) (by omega))
      have HTWQ : Hid (∀ u : World, Below w.heap.size w u → Calls Try.prog 38 #[.slice qA qn qc] u (SliceN (encP q) qn u)) := hide (fun u hb => twin_any u qn qc qA (encP q) ((HQ.out.below hb).more hb.size) (by omega))
      -- then
      go_wp2_with fail
      refine (HTWP.out w2 F2).mono ?_; rintro e w3 ⟨A3, k3, rfl, o3, hb3⟩
      have F3 := F2.trans (hb3.mono F2.size)
      have q3 := hide (PMem.of_own (p := encP p) HP.out.1 o3)
      go_wp2_with fail
      refine (HTWQ.out w3 F3).mono ?_; rintro e w4 ⟨A4, k4, rfl, o4, hb4⟩
      have F4 := F3.trans (hb4.mono F3.size)
      have q4 := hide (PMem.of_own (p := encP q) HQ.out.1 o4)
      have q3' := hide ((q3.out.below hb4).more hb4.size)
      have X4 := hide (HXR.out.below (hb3.trans (hb4.mono hb3.size)))
      obtain ⟨Th, hT⟩ : ∃ Th, Th = thenI mq p q := ⟨_, rfl⟩
      have heT : thenIns mq (encP p) (encP q) = encP Th := by rw [hT]; exact thenIns_enc mq p q
      have hgT : goodP (encP Th) 4000 2000000 := by rw [hT]; exact then_good pw qw qr pl ql ph qh
      obtain ⟨w5, hw5⟩ : ∃ w5, w5 = w4.alloc (.cells #[.slice A3 pn k3, .slice A4 qn k4] 23) := ⟨_, rfl⟩
      have hblk : Blk w5 w4.heap.size 23 #[.slice A3 pn k3, .slice A4 qn k4] := by rw [hw5]; exact Blk.new _ _ _
      have hTH := then_any w5 w4.heap.size 2 A3 A4 pn k3 qn k4 (encP p) (encP q) (by rw [hw5]; exact (q3'.out.alloc (Nat.le_refl _) _).more (by simp)) (by rw [hw5]; exact (q4.out.alloc (Nat.le_refl _) _).more (by simp)) (by rw [hw5]; simp)
        (by rw [hblk.cell]; rfl) (by rw [hblk.cell]; rfl) (goodP_i64 HS2.out (by omega) (by omega)) (goodP_i64 HS3.out (by omega) (by omega)) HS2.out HS3.out mp mq (by rw [regsMax_enc, HMP.out]; unfold regsOf; omega) (by rw [regsMax_enc, HMQ.out]; unfold regsOf; omega) (by omega) (by omega) (by rw [heT]; exact goodP_i64 hgT (by omega) (by omega)) (by rw [heT]; exact hgT)
      rw [heT] at hTH
      have F5 : Below w.heap.size w w5 := by rw [hw5]; exact F4.alloc F4.size _
      have X5 := hide (show Rep 102 w5 p1 x from by rw [hw5]; exact X4.out.alloc _)
      rw [hw5] at hTH F5 X5
      have HTH := hide hTH
      have HT := hide hT
      have HGT := hide hgT
      clear hTH hblk hw5 w5 q3 q3' q4 o3 o4 hb3 hb4 hT hgT heT HXR X4 F2 F3 F4
      go_wp2_with fail
      refine HTH.out.mono ?_; rintro e w6 ⟨AT, NT, kT, rfl, hpT, hb6⟩
      have F6 := F5.trans (hb6.mono F5.size)
      have X6 := hide (X5.out.below hb6)
      have PT := hide hpT
      clear hpT HTH hb6 X5 F5
      -- both
      go_wp2_with fail
      refine (HTWP.out w6 F6).mono ?_; rintro e w7 ⟨A7, k7, rfl, o7, hb7⟩
      have F7 := F6.trans (hb7.mono F6.size)
      have q7 := hide (PMem.of_own (p := encP p) HP.out.1 o7)
      go_wp2_with fail
      refine (HTWQ.out w7 F7).mono ?_; rintro e w8 ⟨A8, k8, rfl, o8, hb8⟩
      have F8 := F7.trans (hb8.mono F7.size)
      have q8 := hide (PMem.of_own (p := encP q) HQ.out.1 o8)
      have q7' := hide ((q7.out.below hb8).more hb8.size)
      have b68 := hb7.trans (hb8.mono hb7.size)
      have X8 := hide (X6.out.below b68)
      have PT8 := hide ((PT.out.below b68).more b68.size)
      obtain ⟨n, hn⟩ : ∃ n, n = max mp mq := ⟨_, rfl⟩
      have hn28 : n ≤ 28 := by omega
      have hmpn : mp ≤ n := by omega
      have hmqn : mq ≤ n := by omega
      obtain ⟨D, hD⟩ : ∃ D, D = pairI n mq p q := ⟨_, rfl⟩
      have heD : pairIns n mq (encP p) (encP q) = encP D := by rw [hD]; exact pairIns_enc n mq p q
      have hgD : goodP (encP D) 4000 2000000 := by rw [hD]; exact pair_good pw qw hn28 qr pl ql ph qh
      have hDH := bpair_any w8 A7 A8 pn k7 qn k8 (encP p) (encP q) q7'.out q8.out (goodP_i64 HS2.out (by omega) (by omega)) (goodP_i64 HS3.out (by omega) (by omega)) HS2.out HS3.out mp mq n (by rw [regsMax_enc, HMP.out]; unfold regsOf; omega) (by rw [regsMax_enc, HMQ.out]; unfold regsOf; omega) hn hn28 (by rw [heD]; exact goodP_i64 hgD (by omega) (by omega)) (by rw [heD]; exact hgD)
      rw [heD] at hDH
      have HDH := hide hDH
      have HD := hide hD
      have HGD := hide hgD
      clear hDH q7 q7' q8 o7 o8 hb7 hb8 hD hgD heD X6 PT b68 F6 F7 hn
      go_wp2_with fail
      refine HDH.out.mono ?_; rintro e w9 ⟨AD, ND, kD, rfl, hpD, hb9⟩
      have F9 := F8.trans (hb9.mono F8.size)
      have X9 := hide (X8.out.below hb9)
      have PT9 := hide ((PT8.out.below hb9).more hb9.size)
      have PD9 := hide hpD
      clear hpD HDH hb9 X8 PT8 F8
      -- either
      go_wp2_with fail
      refine (HTWC.out w9 F9).mono ?_; rintro e w10 ⟨A10, k10, rfl, o10, hb10⟩
      have F10 := F9.trans (hb10.mono F9.size)
      have q10 := hide (PMem.of_own (p := encP c) HC.out.1 o10)
      go_wp2_with fail
      refine (HTWP.out w10 F10).mono ?_; rintro e w11 ⟨A11, k11, rfl, o11, hb11⟩
      have F11 := F10.trans (hb11.mono F10.size)
      have q11 := hide (PMem.of_own (p := encP p) HP.out.1 o11)
      have q10' := hide ((q10.out.below hb11).more hb11.size)
      go_wp2_with fail
      refine (HTWQ.out w11 F11).mono ?_; rintro e w12 ⟨A12, k12, rfl, o12, hb12⟩
      have F12 := F11.trans (hb12.mono F11.size)
      have q12 := hide (PMem.of_own (p := encP q) HQ.out.1 o12)
      have q11' := hide ((q11.out.below hb12).more hb12.size)
      have q10'' := hide ((q10'.out.below hb12).more hb12.size)
      have b912 := (hb10.trans (hb11.mono hb10.size)).trans (hb12.mono (Nat.le_trans hb10.size hb11.size))
      have X12 := hide (X9.out.below b912)
      have PT12 := hide ((PT9.out.below b912).more b912.size)
      have PD12 := hide ((PD9.out.below b912).more b912.size)
      obtain ⟨m, hm⟩ : ∃ m, m = max (max mc mp) mq := ⟨_, rfl⟩
      have hm28 : m ≤ 28 := by omega
      have hmcm : mc ≤ m := by omega
      have hmpm : mp ≤ m := by omega
      have hmqm : mq ≤ m := by omega
      obtain ⟨E, hE⟩ : ∃ E, E = ifI m mp mq c p q := ⟨_, rfl⟩
      have heE : ifIns m mp mq (encP c) (encP p) (encP q) = encP E := by rw [hE]; exact ifIns_enc m mp mq c p q hmp1 hmq1
      have hgE : goodP (encP E) 4000 2000000 := by rw [hE]; exact if_good cw pw qw hm28 qr pr hmp1 hmq1 cl pl ql ch ph qh
      have hEH := bif_any w12 A10 A11 A12 cn k10 pn k11 qn k12 (encP c) (encP p) (encP q) q10''.out q11'.out q12.out (goodP_i64 HS1.out (by omega) (by omega)) (goodP_i64 HS2.out (by omega) (by omega)) (goodP_i64 HS3.out (by omega) (by omega)) HS1.out HS2.out HS3.out mc mp mq m (by rw [regsMax_enc, HMC.out]; unfold regsOf; omega) (by rw [regsMax_enc, HMP.out]; unfold regsOf; omega) (by rw [regsMax_enc, HMQ.out]; unfold regsOf; omega) hm hm28 (by rw [heE]; exact goodP_i64 hgE (by omega) (by omega)) (by rw [heE]; exact hgE)
      rw [heE] at hEH
      have HEH := hide hEH
      have HE := hide hE
      have HGE := hide hgE
      clear hEH q10 q10' q10'' q11 q11' q12 o10 o11 o12 hb10 hb11 hb12 hE hgE heE X9 PT9 PD9 b912 F9 F10 F11 hm
      go_wp2_with fail
      refine HEH.out.mono ?_; rintro e w13 ⟨AE, NE, kE, rfl, hpE, hb13⟩
      have F13 := F12.trans (hb13.mono F12.size)
      have X13 := hide (X12.out.below hb13)
      have PT13 := hide ((PT12.out.below hb13).more hb13.size)
      have PD13 := hide ((PD12.out.below hb13).more hb13.size)
      have PE13 := hide hpE
      clear hpE HEH hb13 X12 PT12 PD12 F12
      have hMT : MaxT = 2000000 := rfl
      -- what the asks are good for from here on
      have HLT : Hid (∀ u : World, Below w13.heap.size w13 u → (∀ y j, play Th 300 0 (first x) ≠ .ended y j) → Calls Try.prog 40 #[.slice AT NT kT, .int .i64 0, .pointer p1, .int .i64 300] u fun e w' => e = .returned (.bool true) ∧ Below u.heap.size u w') := hide (fun u hb hne =>
        lasts_yes u NT kT AT Th 300 p1 x ((PT13.out.below hb).more hb.size) (goodP_i64 HGT.out (by omega) (by omega)) HGT.out (X13.out.below hb) (by omega) (by omega) hne)
      have HLD : Hid (∀ u : World, Below w13.heap.size w13 u → (∀ y j, play D 300 0 (first x) ≠ .ended y j) → Calls Try.prog 40 #[.slice AD ND kD, .int .i64 0, .pointer p1, .int .i64 300] u fun e w' => e = .returned (.bool true) ∧ Below u.heap.size u w') := hide (fun u hb hne =>
        lasts_yes u ND kD AD D 300 p1 x ((PD13.out.below hb).more hb.size) (goodP_i64 HGD.out (by omega) (by omega)) HGD.out (X13.out.below hb) (by omega) (by omega) hne)
      have HLE : Hid (∀ u : World, Below w13.heap.size w13 u → (∀ y j, play E 300 0 (first x) ≠ .ended y j) → Calls Try.prog 40 #[.slice AE NE kE, .int .i64 0, .pointer p1, .int .i64 300] u fun e w' => e = .returned (.bool true) ∧ Below u.heap.size u w') := hide (fun u hb hne =>
        lasts_yes u NE kE AE E 300 p1 x ((PE13.out.below hb).more hb.size) (goodP_i64 HGE.out (by omega) (by omega)) HGE.out (X13.out.below hb) (by omega) (by omega) hne)
      have HRT : Hid (∀ (u : World) (f : Nat) (v : Int) (py : Option Addr) (y : T), Below w13.heap.size w13 u → v = (f : Int) → f ≤ 1000000 → Rep 102 u py y → y.size ≤ 100000000 → play Th f 0 (first x) = .ended y f → Calls Try.prog 41 #[.slice AT NT kT, .int .i64 0, .pointer p1, .pointer py, .int .i64 v] u fun e w' => e = .returned (.bool true) ∧ Below u.heap.size u w') := hide (fun u f v py y hb hv hf hy hys hpl => by
        subst hv
        exact returns_yes u NT kT AT Th f p1 py x y ((PT13.out.below hb).more hb.size) (goodP_i64 HGT.out (by omega) (by omega)) HGT.out (X13.out.below hb) (by omega) hy hys (by omega) hpl)
      have HRD : Hid (∀ (u : World) (f : Nat) (v : Int) (py : Option Addr) (y : T), Below w13.heap.size w13 u → v = (f : Int) → f ≤ 1000000 → Rep 102 u py y → y.size ≤ 100000000 → play D f 0 (first x) = .ended y f → Calls Try.prog 41 #[.slice AD ND kD, .int .i64 0, .pointer p1, .pointer py, .int .i64 v] u fun e w' => e = .returned (.bool true) ∧ Below u.heap.size u w') := hide (fun u f v py y hb hv hf hy hys hpl => by
        subst hv
        exact returns_yes u ND kD AD D f p1 py x y ((PD13.out.below hb).more hb.size) (goodP_i64 HGD.out (by omega) (by omega)) HGD.out (X13.out.below hb) (by omega) hy hys (by omega) hpl)
      have HRE : Hid (∀ (u : World) (f : Nat) (v : Int) (py : Option Addr) (y : T), Below w13.heap.size w13 u → v = (f : Int) → f ≤ 1000000 → Rep 102 u py y → y.size ≤ 100000000 → play E f 0 (first x) = .ended y f → Calls Try.prog 41 #[.slice AE NE kE, .int .i64 0, .pointer p1, .pointer py, .int .i64 v] u fun e w' => e = .returned (.bool true) ∧ Below u.heap.size u w') := hide (fun u f v py y hb hv hf hy hys hpl => by
        subst hv
        exact returns_yes u NE kE AE E f p1 py x y ((PE13.out.below hb).more hb.size) (goodP_i64 HGE.out (by omega) (by omega)) HGE.out (X13.out.below hb) (by omega) hy hys (by omega) hpl)
      have HPC : Hid (∀ (u : World) (py : Option Addr) (y : T), Below w13.heap.size w13 u → Rep 102 u py y → y.size ≤ 100000000 → Calls Try.prog 24 #[.slice cA cn cc, .pointer py, .int .i64 300] u (PlayPost 102 (play c 300 0 (first y)) u)) := hide (fun u py y hb hy hys =>
        play_any u cn cc cA c 300 py y ((HC.out.below (F13.trans (hb.mono F13.size))).more (F13.trans (hb.mono F13.size)).size) cw (by omega) (by omega) hy hys (by omega))
      have HPP : Hid (∀ (u : World) (py : Option Addr) (y : T), Below w13.heap.size w13 u → Rep 102 u py y → y.size ≤ 100000000 → Calls Try.prog 24 #[.slice pA pn pc, .pointer py, .int .i64 300] u (PlayPost 102 (play p 300 0 (first y)) u)) := hide (fun u py y hb hy hys =>
        play_any u pn pc pA p 300 py y ((HP.out.below (F13.trans (hb.mono F13.size))).more (F13.trans (hb.mono F13.size)).size) pw (by omega) (by omega) hy hys (by omega))
      have HPQ : Hid (∀ (u : World) (py : Option Addr) (y : T), Below w13.heap.size w13 u → Rep 102 u py y → y.size ≤ 100000000 → Calls Try.prog 24 #[.slice qA qn qc, .pointer py, .int .i64 300] u (PlayPost 102 (play q 300 0 (first y)) u)) := hide (fun u py y hb hy hys =>
        play_any u qn qc qA q 300 py y ((HQ.out.below (F13.trans (hb.mono F13.size))).more (F13.trans (hb.mono F13.size)).size) qw (by omega) (by omega) hy hys (by omega))
      have HXX : Hid (∀ u : World, Below w13.heap.size w13 u → Rep 102 u p1 x) := hide (fun u hb => X13.out.below hb)
      have HFIN : Hid (∀ u : World, Below w13.heap.size w13 u → Calls Try.prog 36 #[] u fun e w' => e = .returned (.bool true) ∧ Below w.heap.size w w') := hide (fun u hb => (composes_any u).mono fun e w' ⟨he, hb'⟩ => ⟨he, F13.trans ((hb.trans (hb'.mono hb.size)).mono F13.size)⟩)
      have HRQ := hide (fun (u : World) (hb : Below w13.heap.size w13 u) => HREGQ.out u (F13.trans (hb.mono F13.size)))
      have HRP := hide (fun (u : World) (hb : Below w13.heap.size w13 u) => HREGP.out u (F13.trans (hb.mono F13.size)))
      have HW := hide (And.intro cw (And.intro pw qw))
      clear PT13 PD13 PE13 X13 HTWC HTWP HTWQ HREGP HREGQ cw pw qw F13
      go_wp2_with fail
      refine (HPP.out w13 p1 x (Below.refl _ _) (HXX.out w13 (Below.refl _ _)) (by omega)).mono ?_; rintro e w14 ⟨py, ky, howy, rfl, b14, hpost⟩
      have HPO := hide (show PlayRel (play p 300 0 (first x)) w14 py ky howy from hpost)
      clear hpost
      have V14 := b14
      obtain ⟨R, hR⟩ : ∃ R, R = play p 300 0 (first x) := ⟨_, rfl⟩
      rw [← hR] at HPO
      have HR := hide hR
      clear hR
      go_upto_region 9 with fail
      go_cut [94] (fun s94 wx => s94 = .bool false ∧ Below w14.heap.size w14 wx)
      case first =>
       as_aux_lemma =>
        cases R with
        | ended y k =>
          obtain ⟨rfl, rfl, hy⟩ := HPO.out
          clear HPO
          go_wp2_with fail
          go_meet
          case rel => exact ⟨rfl, Below.refl _ _⟩
        | large k =>
          obtain ⟨rfl, rfl, rfl⟩ := HPO.out
          clear HPO
          go_wp2_with fail
          go_meet
          case rel => exact ⟨rfl, Below.refl _ _⟩
        | going k =>
          obtain ⟨rfl, rfl, rfl⟩ := HPO.out
          clear HPO
          have N1 := then_first (mq := mq) (q := q) HW.out.2.1 HR.out.symm
          have N2 := pair_first (mq := mq) (q := q) HW.out.2.1 (by rw [← HMP.out]; exact hmpn) HR.out.symm
          rw [← HT.out] at N1
          rw [← HD.out] at N2
          have HN1 := hide N1
          have HN2 := hide N2
          clear N1 N2
          go_wp2_with fail
          refine (HLT.out w14 V14 HN1.out).mono ?_; rintro e w15 ⟨rfl, b15⟩
          have V15 := V14.trans (b15.mono V14.size)
          go_wp2_with fail
          refine (HLD.out w15 V15 HN2.out).mono ?_; rintro e w16 ⟨rfl, b16⟩
          go_wp2_with fail
          go_meet
          case rel => exact ⟨rfl, b15.trans (b16.mono b15.size)⟩
      case rest =>
        obtain ⟨rfl, b15⟩ := hcut
        have V15 := V14.trans (b15.mono V14.size)
        go_wp2_with fail
        refine (HRQ.out wc V15).mono ?_; rintro e w16 ⟨rfl, b16⟩
        have V16 := V15.trans (b16.mono V15.size)
        have HPO16 := hide ((HPO.out.below b15).below b16)
        clear HPO b14 b15 b16 V14 V15
        go_upto_if 99 with fail
        go_cut [] (fun wx => Below w16.heap.size w16 wx)
        case first =>
         as_aux_lemma =>
          cases R with
          | going k =>
            obtain ⟨rfl, rfl, rfl⟩ := HPO16.out
            clear HPO16
            go_wp2_with fail
            go_meet
            case rel => exact Below.refl _ _
          | large k =>
            obtain ⟨rfl, rfl, rfl⟩ := HPO16.out
            clear HPO16
            go_wp2_with fail
            go_meet
            case rel => exact Below.refl _ _
          | ended y k =>
            obtain ⟨rfl, rfl, hy⟩ := HPO16.out
            have hys := (play_size (q := p) (by omega) (by omega) HR.out.symm)
            have hk3 := hys.2
            have hys := hys.1
            have HY := hide hy
            clear HPO16 hy
            go_wp2_with fail
            refine (HPQ.out w16 py y V16 HY.out (by omega)).mono ?_; rintro e w17 ⟨pz, kz, howz, rfl, b17, hpost⟩
            have V17 := V16.trans (b17.mono V16.size)
            have HY17 := hide (HY.out.below b17)
            have HPO := hide (show PlayRel (play q 300 0 (first y)) w17 pz kz howz from hpost)
            clear hpost HY
            obtain ⟨R2, hR2⟩ : ∃ R, R = play q 300 0 (first y) := ⟨_, rfl⟩
            rw [← hR2] at HPO
            have HR2 := hide hR2
            clear hR2
            go_upto_region 14 with fail
            go_cut [132] (fun s132 wx => s132 = .bool false ∧ Below w17.heap.size w17 wx)
            case first =>
             as_aux_lemma =>
              cases R2 with
              | large j =>
                obtain ⟨rfl, rfl, rfl⟩ := HPO.out
                clear HPO
                go_wp2_with fail
                go_meet
                case rel => exact ⟨rfl, Below.refl _ _⟩
              | going j =>
                obtain ⟨rfl, rfl, rfl⟩ := HPO.out
                clear HPO
                have N1 := then_second (mq := mq) HW.out.2.1 HW.out.2.2 HMQ.out HR.out.symm HR2.out.symm
                rw [← HT.out] at N1
                have HN1 := hide N1
                clear N1
                go_wp2_with fail
                refine (HLT.out w17 V17 HN1.out).mono ?_; rintro e w18 ⟨rfl, b18⟩
                go_wp2_with fail
                go_meet
                case rel => exact ⟨rfl, b18⟩
              | ended z j =>
                obtain ⟨rfl, rfl, hz⟩ := HPO.out
                have hzs := (play_size (q := q) (by omega) (by omega) HR2.out.symm)
                have hj3 := hzs.2
                have hzs := hzs.1
                have N1 := then_ends (mq := mq) HW.out.2.1 HW.out.2.2 HMQ.out HR.out.symm HR2.out.symm
                rw [← HT.out] at N1
                have HN1 := hide N1
                clear N1 HPO
                go_wp2_with fail
                refine (HRT.out w17 (k + j + (mq - 1)) _ pz z V17 (by omega) (by omega) hz (by omega) HN1.out).mono ?_; rintro e w18 ⟨rfl, b18⟩
                go_wp2_with fail
                go_meet
                case rel => exact ⟨rfl, b18⟩
            case rest =>
              obtain ⟨rfl, b18⟩ := hcut
              have V18 := V17.trans (b18.mono V17.size)
              have HY18 := hide (HY17.out.below b18)
              have B18 := b17.trans (b18.mono b17.size)
              clear HPO HR2 HY17 b17 b18
              go_wp2_with fail
              refine (HPQ.out _ p1 x V18 (HXX.out _ V18) (by omega)).mono ?_; rintro e w19 ⟨pz2, kz2, howz2, rfl, b19, hpost⟩
              have V19 := V18.trans (b19.mono V18.size)
              have HY19 := hide (HY18.out.below b19)
              have B19 := B18.trans (b19.mono B18.size)
              clear HY18 B18 b19
              cases hpl : play q 300 0 (first x) with
              | going j =>
                rw [hpl] at hpost
                obtain ⟨rfl, rfl, rfl⟩ := hpost
                clear hpl
                go_wp2_with fail
                go_meet
                case rel => exact B19
              | large j =>
                rw [hpl] at hpost
                obtain ⟨rfl, rfl, rfl⟩ := hpost
                clear hpl
                go_wp2_with fail
                go_meet
                case rel => exact B19
              | ended z j =>
                rw [hpl] at hpost
                obtain ⟨rfl, rfl, hz⟩ := hpost
                have hzs := (play_size (q := q) (by omega) (by omega) hpl)
                have hj3 := hzs.2
                have hzs := hzs.1
                have HPL := hide hpl
                have HZ := hide hz
                clear hpl hz
                go_wp2_with fail
                refine (size_any w19 py y HY19.out).mono ?_; rintro e w' ⟨rfl, rfl⟩
                go_wp2_with fail
                refine (size_any w19 pz2 z HZ.out).mono ?_; rintro e w' ⟨rfl, rfl⟩
                by_cases hsz : y.size + z.size < 2000000
                · have hszd : decide ((y.size : Int) + (z.size : Int) < 2000000) = true := by simp; omega
                  have N1 := pair_ends (n := n) (mq := mq) HW.out.2.1 HW.out.2.2 (by rw [← HMP.out]; exact hmpn) HMQ.out hmqn HR.out.symm HPL.out (by omega)
                  rw [← HD.out] at N1
                  have HN1 := hide N1
                  clear N1
                  go_wp2_with fail
                  refine (pair_any w19 py pz2 y z HY19.out HZ.out (by omega)).mono ?_; rintro e w20 ⟨rfl, rfl⟩
                  have r20 := Rep.pair_new HY19.out HZ.out
                  have b20 : Below w19.heap.size w19 (w19.alloc (.cells #[.pointer py, .pointer pz2, .int .i64 (T.pair y z).size] 102)) := (Below.refl _ _).alloc (Nat.le_refl _) _
                  have V20 := V19.trans (b20.mono V19.size)
                  go_wp2_with fail
                  refine (HRD.out _ (k + j + (mq - 1) + 4) _ _ (.pair y z) V20 (by omega) (by omega) r20 (by simp only [T.size]; omega) HN1.out).mono ?_; rintro e w21 ⟨rfl, b21⟩
                  go_wp2_with fail
                  go_meet
                  case rel => exact (B19.trans (b20.mono B19.size)).trans (b21.mono (Nat.le_trans B19.size b20.size))
                · have hszd : decide ((y.size : Int) + (z.size : Int) < 2000000) = false := by simp; omega
                  go_wp2_with fail
                  go_meet
                  case rel => exact B19
        case rest =>
         as_aux_lemma =>
          have V17 := V16.trans (hcut.mono V16.size)
          clear HPO16 HR hcut HLT HLD HRT HRD
          go_wp2_with fail
          refine (HPC.out wc p1 x V17 (HXX.out _ V17) (by omega)).mono ?_; rintro e w20 ⟨pz, kz, howz, rfl, b20, hpost⟩
          have V20 := V17.trans (b20.mono V17.size)
          clear HPC b20
          cases hpl : play c 300 0 (first x) with
          | going j =>
            rw [hpl] at hpost
            obtain ⟨rfl, rfl, rfl⟩ := hpost
            have N1 := if_condgo (n := m) (mp := mp) (mq := mq) (p := p) (q := q) HW.out.1 (by rw [← HMC.out]; exact hmcm) hmp1 hmq1 hpl
            rw [← HE.out] at N1
            have HN1 := hide N1
            clear N1 hpl
            go_wp2_with fail
            refine (HLE.out w20 V20 HN1.out).mono ?_; rintro e w21 ⟨rfl, b21⟩
            go_wp2_with fail
            refine (HFIN.out w21 (V20.trans (b21.mono V20.size))).mono ?_; rintro e w22 ⟨rfl, zw22⟩
            go_wp2
            go_ret
            exact ⟨rfl, zw22⟩
          | large j =>
            rw [hpl] at hpost
            obtain ⟨rfl, rfl, rfl⟩ := hpost
            clear hpl
            go_wp2_with fail
            refine (HFIN.out w20 V20).mono ?_; rintro e w22 ⟨rfl, zw22⟩
            go_wp2
            go_ret
            exact ⟨rfl, zw22⟩
          | ended z j =>
            rw [hpl] at hpost
            obtain ⟨rfl, rfl, hz⟩ := hpost
            have hj3 := (play_size (q := c) (by omega) (by omega) hpl).2
            have HPL := hide hpl
            have HZ := hide hz
            clear hpl hz
            go_wp2_with fail
            refine (HRP.out w20 V20).mono ?_; rintro e w21 ⟨rfl, b21⟩
            have V21 := V20.trans (b21.mono V20.size)
            have hz := HZ.out.below b21
            clear HRP b21
            cases z with
            | nil =>
              simp only [Rep] at hz
              subst hz
              go_wp2_with fail
              refine (HRQ.out w21 V21).mono ?_; rintro e w22 ⟨rfl, b22⟩
              have V22 := V21.trans (b22.mono V21.size)
              clear HRQ b22
              go_wp2_with fail
              refine (HPQ.out w22 p1 x V22 (HXX.out _ V22) (by omega)).mono ?_; rintro e w23 ⟨py3, ky3, howy3, rfl, b23, hpost⟩
              have V23 := V22.trans (b23.mono V22.size)
              clear HPQ b23
              cases hpl : play q 300 0 (first x) with
              | going k =>
                rw [hpl] at hpost
                obtain ⟨rfl, rfl, rfl⟩ := hpost
                have N1 := if_no_go (n := m) (mp := mp) (mq := mq) (p := p) HW.out.1 HW.out.2.2 (by rw [← HMC.out]; exact hmcm) HMQ.out hmqm hmp1 hmq1 HPL.out hpl
                rw [← HE.out] at N1
                have HN1 := hide N1
                clear N1 hpl
                go_wp2_with fail
                refine (HLE.out w23 V23 HN1.out).mono ?_; rintro e w24 ⟨rfl, b24⟩
                go_wp2_with fail
                refine (HFIN.out w24 (V23.trans (b24.mono V23.size))).mono ?_; rintro e w25 ⟨rfl, zw25⟩
                go_wp2
                go_ret
                exact ⟨rfl, zw25⟩
              | large k =>
                rw [hpl] at hpost
                obtain ⟨rfl, rfl, rfl⟩ := hpost
                clear hpl
                go_wp2_with fail
                refine (HFIN.out w23 V23).mono ?_; rintro e w25 ⟨rfl, zw25⟩
                go_wp2
                go_ret
                exact ⟨rfl, zw25⟩
              | ended y k =>
                rw [hpl] at hpost
                obtain ⟨rfl, rfl, hy⟩ := hpost
                have hys := (play_size (q := q) (by omega) (by omega) hpl)
                have hk3 := hys.2
                have hys := hys.1
                have N1 := if_no_ends (n := m) (mp := mp) (mq := mq) (p := p) HW.out.1 HW.out.2.2 (by rw [← HMC.out]; exact hmcm) HMQ.out hmqm hmp1 hmq1 HPL.out hpl
                rw [← HE.out] at N1
                have HN1 := hide N1
                have HY := hide hy
                clear N1 hpl hy
                go_wp2_with fail
                refine (HRE.out w23 (j + mq + 4 + k) _ _ y V23 (by omega) (by omega) HY.out (by omega) HN1.out).mono ?_; rintro e w24 ⟨rfl, b24⟩
                go_wp2_with fail
                refine (HFIN.out w24 (V23.trans (b24.mono V23.size))).mono ?_; rintro e w25 ⟨rfl, zw25⟩
                go_wp2
                go_ret
                exact ⟨rfl, zw25⟩
            | pair z1 z2 =>
              obtain ⟨gz, pa, pb, rfl, _⟩ := hz
              clear HRQ
              go_wp2_with fail
              refine (HPP.out w21 p1 x V21 (HXX.out _ V21) (by omega)).mono ?_; rintro e w23 ⟨py3, ky3, howy3, rfl, b23, hpost⟩
              have V23 := V21.trans (b23.mono V21.size)
              clear HPP b23
              cases hpl : play p 300 0 (first x) with
              | going k =>
                rw [hpl] at hpost
                obtain ⟨rfl, rfl, rfl⟩ := hpost
                have N1 := if_yes_go (n := m) (mp := mp) (mq := mq) (q := q) HW.out.1 HW.out.2.1 (by rw [← HMC.out]; exact hmcm) HMP.out hmpm hmp1 hmq1 HPL.out (by simp) hpl
                rw [← HE.out] at N1
                have HN1 := hide N1
                clear N1 hpl
                go_wp2_with fail
                refine (HLE.out w23 V23 HN1.out).mono ?_; rintro e w24 ⟨rfl, b24⟩
                go_wp2_with fail
                refine (HFIN.out w24 (V23.trans (b24.mono V23.size))).mono ?_; rintro e w25 ⟨rfl, zw25⟩
                go_wp2
                go_ret
                exact ⟨rfl, zw25⟩
              | large k =>
                rw [hpl] at hpost
                obtain ⟨rfl, rfl, rfl⟩ := hpost
                clear hpl
                go_wp2_with fail
                refine (HFIN.out w23 V23).mono ?_; rintro e w25 ⟨rfl, zw25⟩
                go_wp2
                go_ret
                exact ⟨rfl, zw25⟩
              | ended y k =>
                rw [hpl] at hpost
                obtain ⟨rfl, rfl, hy⟩ := hpost
                have hys := (play_size (q := p) (by omega) (by omega) hpl)
                have hk3 := hys.2
                have hys := hys.1
                have N1 := if_yes_ends (n := m) (mp := mp) (mq := mq) (q := q) HW.out.1 HW.out.2.1 (by rw [← HMC.out]; exact hmcm) HMP.out hmpm hmp1 hmq1 HPL.out (by simp) hpl
                rw [← HE.out] at N1
                have HN1 := hide N1
                have HY := hide hy
                clear N1 hpl hy
                go_wp2_with fail
                refine (HRE.out w23 (j + mp + 2 + k) _ _ y V23 (by omega) (by omega) HY.out (by omega) HN1.out).mono ?_; rintro e w24 ⟨rfl, b24⟩
                go_wp2_with fail
                refine (HFIN.out w24 (V23.trans (b24.mono V23.size))).mono ?_; rintro e w25 ⟨rfl, zw25⟩
                go_wp2
                go_ret
                exact ⟨rfl, zw25⟩
end Go.Proofs.Ytgbieakahgkkpaa
