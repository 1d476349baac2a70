import Derived.Test.YtgbieakahgkkpaaProg
import Derived.Test.YtgbieakahgkkpaaPMem
import Derived.Test.YtgbieakahgkkpaaBuildC
import Derived.WalkKit
import Derived.WalkSpells
import Derived.WalkLawsBesides
import Derived.Outline
import Derived.KernelRfl
namespace Go.Proofs.Ytgbieakahgkkpaa
open Go.RowKit

section
variable {w w' : World} {base base' : Nat} {e : TypeId} {size n : Nat} {v : Value} {xs : List Value}
theorem own_base (h : w.ownsRow base e size v n xs) (hb : base' ≤ base) : w.ownsRow base' e size v n xs := by
  obtain ⟨h1, h2⟩ := h
  refine ⟨h1, ?_⟩
  rcases h2 with h2 | ⟨g, cap, cur, a, b, c⟩
  · exact .inl h2
  · exact .inr ⟨g, cap, cur, a, Nat.le_trans hb b, c⟩
theorem own_below (h : w.ownsRow base e size v n xs) (hb : Below w.heap.size w w') : w'.ownsRow base e size v n xs := by
  obtain ⟨h1, h2⟩ := h
  refine ⟨h1, ?_⟩
  rcases h2 with h2 | ⟨g, cap, cur, a, b, c, d⟩
  · exact .inl h2
  · exact .inr ⟨g, cap, cur, a, b, (Blk.below (w := w) c hb (Blk.lt c)), d⟩
theorem own_apart (h : w.ownsRow base e size v n xs) {row : Option Nat} (hg : w.grownBy w' row) (hr : ∀ k, row = some k → k < base) : w'.ownsRow base e size v n xs := by
  refine h.kept hg ?_
  cases hv : v.ownBlock with
  | none => exact .inl rfl
  | some k => exact .inr (fun e' => by have h1 := (h.lt k hv).1; have h2 := hr k e'.symm; omega)
end
theorem own_lt_kept {w w' : World} {base : Nat} {e : TypeId} {size n : Nat} {v : Value} {xs : List Value} (h : w.ownsRow base e size v n xs) {row : Option Nat} (hg : w.grownBy w' row) {H : Nat} (hv : ∀ k, v.ownBlock = some k → k < H) (hr : ∀ k, row = some k → H ≤ k) : w'.ownsRow base e size v n xs := by
  refine h.kept hg ?_
  cases hv' : v.ownBlock with
  | none => exact .inl rfl
  | some k => exact .inr (fun e' => by have h1 := hv k hv'; have h2 := hr k e'.symm; omega)
theorem row1 (W : World) (op a b c : Int) (t : ByteArray) : (W.alloc (.cells #[.int .i64 op, .int .i64 a, .int .i64 b, .int .i64 c, .string t] 41)).ownsRow W.heap.size 41 5 (.slice (some ⟨W.heap.size, 0, none⟩) 1 1) 1 (progCells [⟨op, a, b, c, t⟩]) :=
  ⟨rfl, .inr ⟨W.heap.size, 1, _, rfl, Nat.le_refl _, heap_alloc_new W _, Nat.le_refl _, by decide, rfl, rfl⟩⟩

/-- As SliceOut, the length by name. -/
def SliceN (p : List Ins) (N : Nat) (w : World) (e : Ending) (w' : World) : Prop :=
  ∃ A cap, e = .returned (.slice A N cap) ∧ w'.ownsRow w.heap.size 41 5 (.slice A N cap) N (progCells p) ∧ Below w.heap.size w w'
theorem SliceOut.n {p : List Ins} {w w' : World} {e : Ending} (h : SliceOut p w e w') {N : Nat} (hN : p.length = N) : SliceN p N w e w' := by
  subst hN; exact h

def moveIns (a b : Int) : Ins := ⟨1, a, b, 0, ByteArray.empty⟩
def jumpIns (a b : Int) : Ins := ⟨5, a, b, 0, ByteArray.empty⟩
def leapIns (r b : Int) : List Ins := [⟨0, r, 0, 0, (T.pair .nil .nil).str⟩, jumpIns r b]
def askIns (n mc : Nat) (c : List Ins) : List Ins := [moveIns n 0] ++ (cleanIns mc ++ c)
def workIns (n mp : Nat) (p : List Ins) : List Ins := [moveIns 0 n] ++ (cleanIns mp ++ p)
def leaveIns (n L : Nat) : List Ins := [moveIns 0 n] ++ leapIns n ((L : Int) + 3)
def whileOut (n mc mp : Nat) (c p : List Ins) : List Ins := (askIns n mc c ++ [jumpIns 0 4]) ++ (leaveIns n (workIns n mp p).length ++ workIns n mp p)
def whileIns (n mc mp : Nat) (c p : List Ins) : List Ins := whileOut n mc mp c p ++ leapIns n (-((whileOut n mc mp c p).length : Int) - 1)

theorem PVs.two {w : World} {c p : PV} (hc : PMem w w.heap.size c.A c.n c.p) (hp : PMem w w.heap.size p.A p.n p.p) (h1 : c.n ≤ 4000) (h2 : p.n ≤ 4000) :
    PVs (w.alloc (.cells #[c.val, p.val] 23)) (w.alloc (.cells #[c.val, p.val] 23)).heap.size w.heap.size [c, p] := by
  have hb := Blk.new w 23 #[c.val, p.val]
  refine ⟨by simp, fun i v hv => ?_⟩
  match i, hv with
  | 0, hv => simp at hv; subst hv; exact ⟨by rw [hb.cell]; rfl, (hc.alloc (Nat.le_refl _) _).more (by simp), h1⟩
  | 1, hv => simp at hv; subst hv; exact ⟨by rw [hb.cell]; rfl, (hp.alloc (Nat.le_refl _) _).more (by simp), h2⟩

theorem PVs.three {w : World} {c p q : PV} (hc : PMem w w.heap.size c.A c.n c.p) (hp : PMem w w.heap.size p.A p.n p.p) (hq : PMem w w.heap.size q.A q.n q.p) (h1 : c.n ≤ 4000) (h2 : p.n ≤ 4000) (h3 : q.n ≤ 4000) :
    PVs (w.alloc (.cells #[c.val, p.val, q.val] 23)) (w.alloc (.cells #[c.val, p.val, q.val] 23)).heap.size w.heap.size [c, p, q] := by
  have hb := Blk.new w 23 #[c.val, p.val, q.val]
  refine ⟨by simp, fun i v hv => ?_⟩
  match i, hv with
  | 0, hv => simp at hv; subst hv; exact ⟨by rw [hb.cell]; rfl, (hc.alloc (Nat.le_refl _) _).more (by simp), h1⟩
  | 1, hv => simp at hv; subst hv; exact ⟨by rw [hb.cell]; rfl, (hp.alloc (Nat.le_refl _) _).more (by simp), h2⟩
  | 2, hv => simp at hv; subst hv; exact ⟨by rw [hb.cell]; rfl, (hq.alloc (Nat.le_refl _) _).more (by simp), h3⟩

set_option maxHeartbeats 4000000 in
set_option maxRecDepth 100000 in
/-- While of small valid programs. -/
theorem while_any (w : World) (cA pA : Option Addr) (cn cc pn pc : Nat) (cp pp : List Ins) (hc : PMem w w.heap.size cA cn cp) (hp : PMem w w.heap.size pA pn pp) (hci : ∀ x ∈ cp, x.I64) (hpi : ∀ x ∈ pp, x.I64) (hcg : goodP cp 60 2000) (hpg : goodP pp 60 2000)
    (mc mp n : Nat) (hmc : regsMax cp + 1 = mc) (hmp : regsMax pp + 1 = mp) (hn : n = max mc mp) (hn28 : n ≤ 28)
    (hI : ∀ x ∈ whileIns n mc mp cp pp, x.I64) (hG : goodP (whileIns n mc mp cp pp) 4000 2000000) :
    Calls Try.prog 37 #[.slice cA cn cc, .slice pA pn pc] w fun e w' => ∃ A N cap, e = .returned (.tuple #[.slice A N cap, .int .i64 0]) ∧ PMem w' w'.heap.size A N (whileIns n mc mp cp pp) ∧ Below w.heap.size w w' := by
  obtain ⟨i0, hi0, hz0, hz1, hz2⟩ := info_parts info41
  have hcg' : goodP cp 4000 2000000 := ⟨by have := hcg.1; omega, by have := hcg.2.1; omega, hcg.2.2⟩
  have hpg' : goodP pp 4000 2000000 := ⟨by have := hpg.1; omega, by have := hpg.2.1; omega, hpg.2.2⟩
  have hcn : cn ≤ 60 := by have := hcg.1; have := hc.1; omega
  have hpn : pn ≤ 60 := by have := hpg.1; have := hp.1; omega
  have hmc1 : 1 ≤ mc := by have := regsMax_nonneg cp cp.length; rw [List.take_length] at this; unfold regsMax at hmc; omega
  have hmp1 : 1 ≤ mp := by have := regsMax_nonneg pp pp.length; rw [List.take_length] at this; unfold regsMax at hmp; omega
  have hchk := check_any _ w.heap.size 2 2 [⟨cA, cn, cc, cp⟩, ⟨pA, pn, pc, pp⟩] rfl (by omega) (PVs.two hc hp (by simp; omega) (by simp; omega)) (fun i v hv => by
    match i, hv with
    | 0, hv => simp at hv; subst hv; exact ⟨hci, hcg', by simp only; omega⟩
    | 1, hv => simp at hv; subst hv; exact ⟨hpi, hpg', by simp only; omega⟩)
  have hmr : mostRegs [⟨cA, cn, cc, cp⟩, ⟨pA, pn, pc, pp⟩] = (n : Int) := by simp [mostRegs]; omega
  rw [hmr] at hchk
  simp only [PV.val] at hchk
  have HCHK := hide hchk
  obtain ⟨lc, hlc⟩ : ∃ lc, (cleanIns mc ++ cp).length = lc := ⟨_, rfl⟩
  obtain ⟨lp, hlp⟩ : ∃ lp, (cleanIns mp ++ pp).length = lp := ⟨_, rfl⟩
  have hlcb : lc ≤ 100 := by rw [← hlc, List.length_append, cleanIns_length, ← hc.1]; omega
  have hlpb : lp ≤ 100 := by rw [← hlp, List.length_append, cleanIns_length, ← hp.1]; omega
  have HF1 : Hid (∀ W : World, PMem W W.heap.size cA cn cp → Calls Try.prog 108 #[.slice cA cn cc] W (SliceN (cleanIns mc ++ cp) lc W)) := hide (fun W hW => (fresh_any W cn cc cA cp hW hci hcg' mc hmc (by omega)).mono fun e w' h => h.n hlc)
  have HF2 : Hid (∀ W : World, PMem W W.heap.size pA pn pp → Calls Try.prog 108 #[.slice pA pn pc] W (SliceN (cleanIns mp ++ pp) lp W)) := hide (fun W hW => (fresh_any W pn pc pA pp hW hpi hpg' mp hmp (by omega)).mono fun e w' h => h.n hlp)
  have HI := hide hI
  have HG := hide hG
  have HC := hide hc
  have HP := hide hp
  clear hchk hmr hI hG hc hp hci hpi hcg hpg hcg' hpg' hmc hmp
  have HLC := hide hlc
  have HLP := hide hlp
  have HN := hide hn
  clear hlc hlp hn
  go_enter Try.func37, Try.ntmps37
  go_wp2_with fail
  refine HCHK.out.mono ?_; rintro e w1 ⟨rfl, hb1⟩
  have F1 : Below w.heap.size w w1 := ((Below.refl _ _).alloc (Nat.le_refl _) _).trans (hb1.mono (by simp))
  have s1 := F1.size
  -- ask
  go_wp2_with fail
  refine (move_any w1 n 0).mono ?_; rintro e w2 ⟨rfl, hb2⟩
  have F2 := F1.trans (hb2.mono s1)
  have s2 := F2.size
  go_wp2_with fail
  have c2 := ((HC.out.below F2).alloc s2 (.cells #[.int .i64 1, .int .i64 n, .int .i64 0, .int .i64 0, .string ByteArray.empty] 41)).more (B' := (w2.alloc (.cells #[.int .i64 1, .int .i64 n, .int .i64 0, .int .i64 0, .string ByteArray.empty] 41)).heap.size) (by simp; omega)
  refine (HF1.out _ c2).mono ?_; rintro e w3 ⟨A3, k3, rfl, o3, hb3⟩
  have F3 := (F2.alloc s2 (.cells #[.int .i64 1, .int .i64 n, .int .i64 0, .int .i64 0, .string ByteArray.empty] 41)).trans (hb3.mono (by simp; omega))
  have s3 := F3.size
  have r3 := own_base (own_below (row1 w2 1 n 0 0 ByteArray.empty) hb3) s2
  go_wp2_with ((at_builtin; refine wpList_append_any _ rfl (.tmp 24) (.tmp 26) _ rfl w.heap.size 41 i0 (.agg #[.int .i64 0, .int .i64 0, .int .i64 0, .int .i64 0, .string ByteArray.empty]) 5 48 Try.underlying23 hi0 hz0 hz1 hz2 rfl (by omega) _ _ _ rfl r3 w3.heap.size A3 lc k3 (progCells (cleanIns mc ++ cp)) rfl (Reads.of_own o3) (progCells_one _) (by unfold maxLen; omega) (by omega) s3 ?_; intro v4 w4 r4 g4 hat4; obtain ⟨A4, k4, rfl, _⟩ := own_shape r4))
  have F4 := F3.grown g4 s3 (fun k hk => (r3.lt k hk).1)
  have s4 := F4.size
  have l4 : ∀ k, (Value.slice A4 (1 + lc) k4).ownBlock = some k → k < w4.heap.size := fun k hk => (r4.lt k hk).2
  have L4 := hide l4
  obtain ⟨H4, hH4⟩ : ∃ H, H = w4.heap.size := ⟨_, rfl⟩
  have HH4 := hide hH4
  clear l4 hH4 hat4 o3 r3 g4 F3 s3 hb3 c2 hb2 hb1 F1 F2 s1 s2
  -- work
  go_wp2_with fail
  refine (move_any w4 0 n).mono ?_; rintro e w5 ⟨rfl, hb5⟩
  have F5 := F4.trans (hb5.mono s4)
  have s5 := F5.size
  have r5 := own_below r4 hb5
  have t5 := hb5.size
  go_wp2_with fail
  have c5 := ((HP.out.below F5).alloc s5 (.cells #[.int .i64 1, .int .i64 0, .int .i64 n, .int .i64 0, .string ByteArray.empty] 41)).more (B' := (w5.alloc (.cells #[.int .i64 1, .int .i64 0, .int .i64 n, .int .i64 0, .string ByteArray.empty] 41)).heap.size) (by simp; omega)
  refine (HF2.out _ c5).mono ?_; rintro e w6 ⟨A6, k6, rfl, o6, hb6⟩
  have F6 := (F5.alloc s5 (.cells #[.int .i64 1, .int .i64 0, .int .i64 n, .int .i64 0, .string ByteArray.empty] 41)).trans (hb6.mono (by simp; omega))
  have s6 := F6.size
  have t6 := hb6.size
  simp at t6
  have r6 := own_below (r5.alloc (.cells #[.int .i64 1, .int .i64 0, .int .i64 n, .int .i64 0, .string ByteArray.empty] 41)) hb6
  have q6 := own_base (own_below (row1 w5 1 0 n 0 ByteArray.empty) hb6) (base' := w4.heap.size) t5
  go_wp2_with ((at_builtin; refine wpList_append_any _ rfl (.tmp 30) (.tmp 32) _ rfl w4.heap.size 41 i0 (.agg #[.int .i64 0, .int .i64 0, .int .i64 0, .int .i64 0, .string ByteArray.empty]) 5 48 Try.underlying23 hi0 hz0 hz1 hz2 rfl (by omega) _ _ _ rfl q6 w6.heap.size A6 lp k6 (progCells (cleanIns mp ++ pp)) rfl (Reads.of_own o6) (progCells_one _) (by unfold maxLen; omega) (by omega) (by omega) ?_; intro v7 w7 q7 g7 hat7; obtain ⟨A7, k7, rfl, _⟩ := own_shape q7))
  have F7 := F6.grown g7 s6 (fun k hk => by have := (q6.lt k hk).1; omega)
  have s7 := F7.size
  have t7 := g7.size
  have r7 := r6.kept g7 (by
    cases hv : (Value.slice A4 (1 + lc) k4).ownBlock with
    | none => exact .inl rfl
    | some k => exact .inr (fun e' => by have h1 := L4.out k hv; have h2 := (q6.lt k e'.symm).1; omega))
  have s47 : w4.heap.size ≤ w7.heap.size := by omega
  clear o6 q6 g7 F6 s6 hb6 c5 hb5 r5 r6 F5 s5 F4 s4 hat7 r4
  -- leave
  go_wp2_with fail
  refine (move_any w7 0 n).mono ?_; rintro e w8 ⟨rfl, hb8⟩
  have F8 := F7.trans (hb8.mono s7)
  have s8 := F8.size
  have r8 := own_below r7 hb8
  have q8 := own_below q7 hb8
  have t8 := hb8.size
  have lq7 : ∀ k, (Value.slice A7 (1 + lp) k7).ownBlock = some k → k < w7.heap.size := fun k hk => (q7.lt k hk).2
  have LQ7 := hide lq7
  clear lq7
  go_wp2_with fail
  refine (leap_any _ n (1 + (lp : Int) + 3)).mono ?_; intro e w9 h9; obtain ⟨A9, k9, rfl, o9, hb9⟩ := h9.n (N := 2) rfl
  have F9 := (F8.alloc s8 (.cells #[.int .i64 1, .int .i64 0, .int .i64 n, .int .i64 0, .string ByteArray.empty] 41)).trans (hb9.mono (by simp; omega))
  have s9 := F9.size
  have t9 := hb9.size
  simp at t9
  have r9 := own_below (r8.alloc (.cells #[.int .i64 1, .int .i64 0, .int .i64 n, .int .i64 0, .string ByteArray.empty] 41)) hb9
  have q9 := own_below (q8.alloc (.cells #[.int .i64 1, .int .i64 0, .int .i64 n, .int .i64 0, .string ByteArray.empty] 41)) hb9
  have p9 := own_base (own_below (row1 w8 1 0 n 0 ByteArray.empty) hb9) (base' := w7.heap.size) t8
  go_wp2_with (first | (at_builtin; refine wpList_append_any _ rfl (.tmp 36) (.tmp 41) _ rfl w7.heap.size 41 i0 (.agg #[.int .i64 0, .int .i64 0, .int .i64 0, .int .i64 0, .string ByteArray.empty]) 5 48 Try.underlying23 hi0 hz0 hz1 hz2 rfl (by omega) _ _ _ rfl p9 w9.heap.size A9 2 k9 (progCells ([⟨0, n, 0, 0, (T.pair .nil .nil).str⟩, ⟨5, n, 1 + (lp : Int) + 3, 0, ByteArray.empty⟩])) rfl (Reads.of_own o9) (progCells_one _) (by unfold maxLen; omega) (by omega) (by omega) ?_; intro v10 w10 p10 g10 hat10; obtain ⟨A10, k10, rfl, _⟩ := own_shape p10; have F10 := F9.grown g10 s9 (fun k hk => by have := (p9.lt k hk).1; omega); have s10 := F10.size; have t10 := g10.size; have r10 := own_lt_kept r9 g10 (fun k hv => L4.out k hv) (fun k hk => by have := (p9.lt k hk).1; omega); have q10 := own_lt_kept q9 g10 (fun k hv => LQ7.out k hv) (fun k hk => (p9.lt k hk).1); have L10 := hide (fun k hk => (p10.lt k hk).2); clear o9 p9 g10 F9 hb9 hb8 r8 q8 r9 q9 F8 F7 hat10 r7 q7; have j10 := (row1 w10 5 0 4 0 ByteArray.empty); have r10' := r10.alloc (.cells #[.int .i64 5, .int .i64 0, .int .i64 4, .int .i64 0, .string ByteArray.empty] 41); have q10' := q10.alloc (.cells #[.int .i64 5, .int .i64 0, .int .i64 4, .int .i64 0, .string ByteArray.empty] 41); have p10' := p10.alloc (.cells #[.int .i64 5, .int .i64 0, .int .i64 4, .int .i64 0, .string ByteArray.empty] 41)) | (at_builtin; refine wpList_append_any _ rfl (.tmp 43) (.tmp 48) _ rfl w.heap.size 41 i0 (.agg #[.int .i64 0, .int .i64 0, .int .i64 0, .int .i64 0, .string ByteArray.empty]) 5 48 Try.underlying23 hi0 hz0 hz1 hz2 rfl (by omega) _ _ _ rfl r10' _ (some ⟨w10.heap.size, 0, none⟩) 1 1 (progCells ([⟨5, 0, 4, 0, ByteArray.empty⟩])) rfl (Reads.of_own j10) (progCells_one _) (by unfold maxLen; omega) (by omega) (by simp; omega) ?_; intro v11 w11 r11 g11 hat11; obtain ⟨A11, k11, rfl, _⟩ := own_shape r11))
  have F11 := (F10.alloc s10 (.cells #[.int .i64 5, .int .i64 0, .int .i64 4, .int .i64 0, .string ByteArray.empty] 41)).grown g11 (by simp; omega) (fun k hk => (r10'.lt k hk).1)
  have q11 := own_apart q10' g11 (fun k hk => L4.out k hk)
  have p11 := own_apart p10' g11 (fun k hk => by have := L4.out k hk; omega)
  have s11 := F11.size
  clear r10' q10' p10' j10 t10 g11 hat11 F10 s10
  have hw3 : (workIns n mp pp).length = 1 + lp := by simp only [workIns, List.length_append, List.length_cons, List.length_nil]; rw [← HLP.out, List.length_append]
  have m1 : PMem w11 w11.heap.size A11 (1 + lc + 1) (askIns n mc cp ++ [jumpIns 0 4]) := by
    refine PMem.of_own ?_ (e := 41) (base := w.heap.size) (c := k11) ?_
    · simp only [askIns, List.length_append, List.length_cons, List.length_nil]; rw [← HLC.out, List.length_append]
    · rw [askIns, progCells_append, progCells_append]; exact r11
  have m2 : PMem w11 w11.heap.size A10 3 (leaveIns n (workIns n mp pp).length) := by
    refine PMem.of_own ?_ (e := 41) (base := w7.heap.size) (c := k10) ?_
    · rfl
    · rw [hw3, leaveIns, progCells_append]
      have e : (((1 + lp : Nat) : Int) + 3) = 1 + (lp : Int) + 3 := by omega
      rw [leapIns, jumpIns, e]
      exact p11
  have m3 : PMem w11 w11.heap.size A7 (1 + lp) (workIns n mp pp) := by
    refine PMem.of_own ?_ (e := 41) (base := w4.heap.size) (c := k7) ?_
    · exact hw3.symm
    · rw [workIns, progCells_append]; exact q11
  have hpv := PVs.three (c := ⟨A11, 1 + lc + 1, k11, askIns n mc cp ++ [jumpIns 0 4]⟩) (p := ⟨A10, 3, k10, leaveIns n (workIns n mp pp).length⟩) (q := ⟨A7, 1 + lp, k7, workIns n mp pp⟩) m1 m2 m3 (by simp; omega) (by simp) (by simp; omega)
  have hall : allP [⟨A11, 1 + lc + 1, k11, askIns n mc cp ++ [jumpIns 0 4]⟩, ⟨A10, 3, k10, leaveIns n (workIns n mp pp).length⟩, ⟨A7, 1 + lp, k7, workIns n mp pp⟩] = whileOut n mc mp cp pp := by
    simp [allP, whileOut]
  obtain ⟨N, hN⟩ : ∃ N, (whileOut n mc mp cp pp).length = N := ⟨_, rfl⟩
  have hNb : N ≤ 1000 := by
    rw [← hN, whileOut, List.length_append, List.length_append, hw3]
    have h1 := m1.1
    simp only [List.length_append] at h1
    simp only [leaveIns, leapIns, List.length_append, List.length_cons, List.length_nil] at h1 ⊢
    omega
  have hcat := concat_any _ w11.heap.size 3 3 _ rfl (by omega) hpv
  rw [hall] at hcat
  have HCAT := hide (hcat.mono fun e w' h => h.n hN)
  have HN2 := hide hN
  clear hcat hall hpv m1 m2 m3 hw3 hN r11 q11 p11
  simp only [PV.val] at HCAT
  refine HCAT.out.mono ?_; rintro e w12 ⟨A12, k12, rfl, o12, hb12⟩
  have F12 := (F11.alloc s11 (.cells #[.slice A11 (1 + lc + 1) k11, .slice A10 3 k10, .slice A7 (1 + lp) k7] 23)).trans (hb12.mono (by simp; omega))
  have s12 := F12.size
  have r12 := own_base (base' := w.heap.size) o12 (by simp; omega)
  clear HCAT o12 hb12 F11
  go_wp2_with fail
  refine (leap_any _ n (-(N : Int) - 1)).mono ?_; intro e w13 h13; obtain ⟨A13, k13, rfl, o13, hb13⟩ := h13.n (N := 2) rfl
  have F13 := F12.trans (hb13.mono s12)
  have s13 := F13.size
  have r13 := own_below r12 hb13
  go_wp2_with ((at_builtin; refine wpList_append_any _ rfl (.tmp 55) (.tmp 61) _ rfl w.heap.size 41 i0 (.agg #[.int .i64 0, .int .i64 0, .int .i64 0, .int .i64 0, .string ByteArray.empty]) 5 48 Try.underlying23 hi0 hz0 hz1 hz2 rfl (by omega) _ _ _ rfl r13 w13.heap.size A13 2 k13 (progCells ([⟨0, n, 0, 0, (T.pair .nil .nil).str⟩, ⟨5, n, -(N : Int) - 1, 0, ByteArray.empty⟩])) rfl (Reads.of_own o13) (progCells_one _) (by unfold maxLen; omega) (by omega) s13 ?_; intro v14 w14 r14 g14 hat14; obtain ⟨A14, k14, rfl, _⟩ := own_shape r14))
  have F14 := F13.grown g14 s13 (fun k hk => (r13.lt k hk).1)
  have e14 : whileIns n mc mp cp pp = whileOut n mc mp cp pp ++ [⟨0, n, 0, 0, (T.pair .nil .nil).str⟩, ⟨5, n, -(N : Int) - 1, 0, ByteArray.empty⟩] := by
    rw [whileIns, HN2.out]; rfl
  have m14 : PMem w14 w14.heap.size A14 (N + 2) (whileIns n mc mp cp pp) := by
    refine PMem.of_own ?_ (e := 41) (base := w.heap.size) (c := k14) ?_
    · rw [e14, List.length_append, HN2.out]; rfl
    · rw [e14, progCells_append]; exact r14
  have HD := hide (done_yes w14 (N + 2) k14 A14 _ m14 HI.out HG.out)
  clear r14 e14 o13 r13 r12 g14 hat14
  refine HD.out.mono ?_; rintro e w15 ⟨rfl, hb15⟩
  go_wp2
  go_ret2
  exact ⟨A14, N + 2, k14, rfl, (m14.below hb15).more hb15.size, F14.trans (hb15.mono F14.size)⟩
end Go.Proofs.Ytgbieakahgkkpaa
