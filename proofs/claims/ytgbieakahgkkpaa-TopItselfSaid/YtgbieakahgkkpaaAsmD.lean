/- The writer of the universal program: counting, taking, storing, and the kinds. (Printed by gen/genasmd.py.) -/
import Derived.Test.YtgbieakahgkkpaaAsmC
namespace Go.Proofs.Ytgbieakahgkkpaa
open Go.RowKit Go.Maps
attribute [local go_sem ↓] Go.wp_at_zero Go.wp_at_succ

def U.count (f : U → U) (u : U) : U :=
  (((f ((((u.named.named.named.here (nameS u.named.n)).jump 10 (nameS u.named.named.n)).jump 14 (nameS u.named.named.named.n)).here (nameS u.named.named.n))).emit ⟨4, 10, 10, 0, ByteArray.empty⟩).jump 14 (nameS u.named.n)).here (nameS u.named.named.named.n)
theorem U.m_count {f : U → U} {k : Nat} (hf : ∀ v, (f v).m ≤ v.m + k) (u : U) : (u.count f).m ≤ u.m + (k + 13) := by
  unfold U.count
  have := hf ((((u.named.named.named.here (nameS u.named.n)).jump 10 (nameS u.named.named.n)).jump 14 (nameS u.named.named.named.n)).here (nameS u.named.named.n))
  simp only [U.m_named, U.m_emit, U.m_here, U.m_jump] at this ⊢
  omega
def U.kind (f : U → U) (go : ByteArray) (u : U) : U :=
  ((((f (u.named.jump 5 (nameS u.named.n))).jump 14 go).here (nameS u.named.n)).emit ⟨4, 5, 5, 0, ByteArray.empty⟩)
theorem U.m_kind {f : U → U} {k : Nat} (hf : ∀ v, (f v).m ≤ v.m + k) (go : ByteArray) (u : U) : (u.kind f go).m ≤ u.m + (k + 7) := by
  unfold U.kind
  have := hf (u.named.jump 5 (nameS u.named.n))
  simp only [U.m_named, U.m_emit, U.m_here, U.m_jump] at this ⊢
  omega
def tl11 (u : U) : U := u.emit ⟨4, 11, 11, 0, ByteArray.empty⟩
def U.fetch (to : Int) (u : U) : U := ((u.emit ⟨1, 11, 4, 0, ByteArray.empty⟩).count tl11).emit ⟨3, to, 11, 0, ByteArray.empty⟩
theorem m_tl11 (v : U) : (tl11 v).m ≤ v.m + 1 := Nat.le_of_eq (U.m_emit _ _)
theorem U.m_fetch (to : Int) (u : U) : (u.fetch to).m ≤ u.m + 16 := by
  unfold U.fetch
  rw [U.m_emit]
  have := U.m_count m_tl11 (u.emit ⟨1, 11, 4, 0, ByteArray.empty⟩)
  rw [U.m_emit] at this
  omega
def stB (u : U) : U := ((u.emit ⟨3, 13, 11, 0, ByteArray.empty⟩).emit ⟨2, 12, 13, 12, ByteArray.empty⟩).emit ⟨4, 11, 11, 0, ByteArray.empty⟩
theorem m_stB (v : U) : (stB v).m ≤ v.m + 3 := by unfold stB; simp only [U.m_emit]; omega
def U.next (u : U) : U := ((u.emit ⟨4, 2, 2, 0, ByteArray.empty⟩).emit ⟨0, 13, 0, 0, T.nil.str⟩).emit ⟨2, 3, 13, 3, ByteArray.empty⟩
theorem m_next (v : U) : (U.next v).m ≤ v.m + 3 := by unfold U.next; simp only [U.m_emit]; omega

set_option maxHeartbeats 2000000 in
set_option maxRecDepth 100000 in
theorem u_count1 (w : World) (B ub b : Nat) (u : U)  (f : U → U) (k fn x : Nat) (hf0 : ∀ v, (f v).m ≤ v.m + k) (hk : k ≤ 40)
    (hcf : ∀ W, Sem.run Try.prog (callFunc fn #[.pointer (some ⟨x, 0, none⟩)]) W = .ok (.enter fn #[.pointer (some ⟨x, 0, none⟩)]) W) (hdo0 : ∀ W v, FrU w W → UW W B ub b v → v.m ≤ 820 → Calls Try.prog fn #[.pointer (some ⟨x, 0, none⟩)] W (UPost B ub b (f v) W)) (h : UW w B ub b u) (hm : u.m ≤ 800) :
    Calls Try.prog 92 #[.pointer (some ⟨ub, 0, none⟩), .func (.func fn) #[] #[.pointer (some ⟨x, 0, none⟩)]] w (UPost B ub b (u.count f) w) := by
  have hf := hide hf0
  have hdo := hide hdo0
  clear hf0 hdo0
  have F0 := FrU.refl w
  have G0 := Below.refl B w
  have K0 := h
  have c0 := h.c0
  clear h
  go_enter Try.func92, Try.ntmps92
  go_wp2_with fail
  refine (u_name w B ub b u K0 (by omega)).mono ?_; rintro e w1 ⟨rfl, K1, f1, g1⟩
  obtain ⟨s1, hs1⟩ : ∃ z, z = nameS u.named.n := ⟨_, rfl⟩
  rw [← hs1]
  have HS1 := hide hs1
  have z1 : s1.size ≤ 1000 := by rw [hs1, nameS_size]; omega
  clear hs1
  have F1 := F0.trans f1
  have G1 := G0.trans g1
  obtain ⟨u1, hu1⟩ : ∃ z, z = u.named := ⟨_, rfl⟩
  rw [← hu1] at K1
  have m1 : u1.m ≤ u.m + 1 := by rw [hu1]; exact Nat.le_of_eq (U.m_named _)
  have HU1 := hide hu1
  have c1 := K1.c0
  clear hu1 f1 g1 F0 G0 K0 c0
  go_wp2_with fail
  refine (u_name w1 B ub b u1 K1 (by omega)).mono ?_; rintro e w2 ⟨rfl, K2, f2, g2⟩
  obtain ⟨s2, hs2⟩ : ∃ z, z = nameS u1.named.n := ⟨_, rfl⟩
  rw [← hs2]
  have HS2 := hide hs2
  have z2 : s2.size ≤ 1000 := by rw [hs2, nameS_size]; omega
  clear hs2
  have F2 := F1.trans f2
  have G2 := G1.trans g2
  obtain ⟨u2, hu2⟩ : ∃ z, z = u1.named := ⟨_, rfl⟩
  rw [← hu2] at K2
  have m2 : u2.m ≤ u1.m + 1 := by rw [hu2]; exact Nat.le_of_eq (U.m_named _)
  have HU2 := hide hu2
  have c2 := K2.c0
  clear hu2 f2 g2 F1 G1 K1 c1
  go_wp2_with fail
  refine (u_name w2 B ub b u2 K2 (by omega)).mono ?_; rintro e w3 ⟨rfl, K3, f3, g3⟩
  obtain ⟨s3, hs3⟩ : ∃ z, z = nameS u2.named.n := ⟨_, rfl⟩
  rw [← hs3]
  have HS3 := hide hs3
  have z3 : s3.size ≤ 1000 := by rw [hs3, nameS_size]; omega
  clear hs3
  have F3 := F2.trans f3
  have G3 := G2.trans g3
  obtain ⟨u3, hu3⟩ : ∃ z, z = u2.named := ⟨_, rfl⟩
  rw [← hu3] at K3
  have m3 : u3.m ≤ u2.m + 1 := by rw [hu3]; exact Nat.le_of_eq (U.m_named _)
  have HU3 := hide hu3
  have c3 := K3.c0
  clear hu3 f3 g3 F2 G2 K2 c2
  go_wp2_with fail
  refine (u_here w3 B ub b u3 s1 K3 (by omega) (by first | assumption | decide)).mono ?_; rintro e w4 ⟨rfl, K4, f4, g4⟩
  have F4 := F3.trans f4
  have G4 := G3.trans g4
  obtain ⟨u4, hu4⟩ : ∃ z, z = u3.here s1 := ⟨_, rfl⟩
  rw [← hu4] at K4
  have m4 : u4.m ≤ u3.m + 1 := by rw [hu4]; exact Nat.le_of_eq (U.m_here _ _)
  have HU4 := hide hu4
  have c4 := K4.c0
  clear hu4 f4 g4 F3 G3 K3 c3
  go_wp2_with fail
  refine (u_jump w4 B ub b u4 10 s2 K4 (by omega) (by first | assumption | decide)).mono ?_; rintro e w5 ⟨rfl, K5, f5, g5⟩
  have F5 := F4.trans f5
  have G5 := G4.trans g5
  obtain ⟨u5, hu5⟩ : ∃ z, z = u4.jump 10 s2 := ⟨_, rfl⟩
  rw [← hu5] at K5
  have m5 : u5.m ≤ u4.m + 2 := by rw [hu5]; exact Nat.le_of_eq (U.m_jump _ _ _)
  have HU5 := hide hu5
  have c5 := K5.c0
  clear hu5 f5 g5 F4 G4 K4 c4
  go_wp2_with fail
  refine (u_leap w5 B ub b u5 s3 K5 (by omega) (by first | assumption | decide)).mono ?_; rintro e w6 ⟨rfl, K6, f6, g6⟩
  have F6 := F5.trans f6
  have G6 := G5.trans g6
  obtain ⟨u6, hu6⟩ : ∃ z, z = u5.jump 14 s3 := ⟨_, rfl⟩
  rw [← hu6] at K6
  have m6 : u6.m ≤ u5.m + 2 := by rw [hu6]; exact Nat.le_of_eq (U.m_jump _ _ _)
  have HU6 := hide hu6
  have c6 := K6.c0
  clear hu6 f6 g6 F5 G5 K5 c5
  go_wp2_with fail
  refine (u_here w6 B ub b u6 s2 K6 (by omega) (by first | assumption | decide)).mono ?_; rintro e w7 ⟨rfl, K7, f7, g7⟩
  have F7 := F6.trans f7
  have G7 := G6.trans g7
  obtain ⟨u7, hu7⟩ : ∃ z, z = u6.here s2 := ⟨_, rfl⟩
  rw [← hu7] at K7
  have m7 : u7.m ≤ u6.m + 1 := by rw [hu7]; exact Nat.le_of_eq (U.m_here _ _)
  have HU7 := hide hu7
  have c7 := K7.c0
  clear hu7 f7 g7 F6 G6 K6 c6
  go_wp2_with fail
  refine (hdo.out w7 u7 F7 K7 (by omega)).mono ?_; rintro e w8 ⟨rfl, K8, f8, g8⟩
  have F8 := F7.trans f8
  have G8 := G7.trans g8
  obtain ⟨u8, hu8⟩ : ∃ z, z = f u7 := ⟨_, rfl⟩
  rw [← hu8] at K8
  have m8 : u8.m ≤ u7.m + k := by rw [hu8]; exact hf.out _
  have HU8 := hide hu8
  have c8 := K8.c0
  clear hu8 f8 g8 F7 G7 K7 c7
  go_wp2_with fail
  refine (u_tail w8 B ub b u8 10 10 K8 (by omega)).mono ?_; rintro e w9 ⟨rfl, K9, f9, g9⟩
  have F9 := F8.trans f9
  have G9 := G8.trans g9
  obtain ⟨u9, hu9⟩ : ∃ z, z = u8.emit ⟨4, 10, 10, 0, ByteArray.empty⟩ := ⟨_, rfl⟩
  rw [← hu9] at K9
  have m9 : u9.m ≤ u8.m + 1 := by rw [hu9]; exact Nat.le_of_eq (U.m_emit _ _)
  have HU9 := hide hu9
  have c9 := K9.c0
  clear hu9 f9 g9 F8 G8 K8 c8
  go_wp2_with fail
  refine (u_leap w9 B ub b u9 s1 K9 (by omega) (by first | assumption | decide)).mono ?_; rintro e w10 ⟨rfl, K10, f10, g10⟩
  have F10 := F9.trans f10
  have G10 := G9.trans g10
  obtain ⟨u10, hu10⟩ : ∃ z, z = u9.jump 14 s1 := ⟨_, rfl⟩
  rw [← hu10] at K10
  have m10 : u10.m ≤ u9.m + 2 := by rw [hu10]; exact Nat.le_of_eq (U.m_jump _ _ _)
  have HU10 := hide hu10
  have c10 := K10.c0
  clear hu10 f10 g10 F9 G9 K9 c9
  go_wp2_with fail
  refine (u_here w10 B ub b u10 s3 K10 (by omega) (by first | assumption | decide)).mono ?_; rintro e w11 ⟨rfl, K11, f11, g11⟩
  have F11 := F10.trans f11
  have G11 := G10.trans g11
  obtain ⟨u11, hu11⟩ : ∃ z, z = u10.here s3 := ⟨_, rfl⟩
  rw [← hu11] at K11
  have m11 : u11.m ≤ u10.m + 1 := by rw [hu11]; exact Nat.le_of_eq (U.m_here _ _)
  have HU11 := hide hu11
  have c11 := K11.c0
  clear hu11 f11 g11 F10 G10 K10 c10
  go_wp2
  go_end0
  refine ⟨rfl, ?_, F11, G11⟩
  have e : u11 = u.count f := by
    rw [HU11.out, HU10.out, HU9.out, HU8.out, HU7.out, HU6.out, HU5.out, HU4.out, HS1.out, HS2.out, HS3.out, HU3.out, HU2.out, HU1.out]
    rfl
  rw [← e]; exact K11

set_option maxHeartbeats 2000000 in
set_option maxRecDepth 100000 in
theorem u_count2 (w : World) (B ub b : Nat) (u : U)  (f : U → U) (k fn x : Nat) (hf0 : ∀ v, (f v).m ≤ v.m + k) (hk : k ≤ 40)
    (hcf : ∀ W, Sem.run Try.prog (callFunc fn #[.pointer (some ⟨x, 0, none⟩)]) W = .ok (.enter fn #[.pointer (some ⟨x, 0, none⟩)]) W) (hdo0 : ∀ W v, FrU w W → UW W B ub b v → v.m ≤ 820 → Calls Try.prog fn #[.pointer (some ⟨x, 0, none⟩)] W (UPost B ub b (f v) W)) (h : UW w B ub b u) (hm : u.m ≤ 800) :
    Calls Try.prog 92 #[.pointer (some ⟨ub, 0, none⟩), .func (.func fn) #[.pointer (some ⟨x, 0, none⟩)] #[]] w (UPost B ub b (u.count f) w) := by
  have hf := hide hf0
  have hdo := hide hdo0
  clear hf0 hdo0
  have F0 := FrU.refl w
  have G0 := Below.refl B w
  have K0 := h
  have c0 := h.c0
  clear h
  go_enter Try.func92, Try.ntmps92
  go_wp2_with fail
  refine (u_name w B ub b u K0 (by omega)).mono ?_; rintro e w1 ⟨rfl, K1, f1, g1⟩
  obtain ⟨s1, hs1⟩ : ∃ z, z = nameS u.named.n := ⟨_, rfl⟩
  rw [← hs1]
  have HS1 := hide hs1
  have z1 : s1.size ≤ 1000 := by rw [hs1, nameS_size]; omega
  clear hs1
  have F1 := F0.trans f1
  have G1 := G0.trans g1
  obtain ⟨u1, hu1⟩ : ∃ z, z = u.named := ⟨_, rfl⟩
  rw [← hu1] at K1
  have m1 : u1.m ≤ u.m + 1 := by rw [hu1]; exact Nat.le_of_eq (U.m_named _)
  have HU1 := hide hu1
  have c1 := K1.c0
  clear hu1 f1 g1 F0 G0 K0 c0
  go_wp2_with fail
  refine (u_name w1 B ub b u1 K1 (by omega)).mono ?_; rintro e w2 ⟨rfl, K2, f2, g2⟩
  obtain ⟨s2, hs2⟩ : ∃ z, z = nameS u1.named.n := ⟨_, rfl⟩
  rw [← hs2]
  have HS2 := hide hs2
  have z2 : s2.size ≤ 1000 := by rw [hs2, nameS_size]; omega
  clear hs2
  have F2 := F1.trans f2
  have G2 := G1.trans g2
  obtain ⟨u2, hu2⟩ : ∃ z, z = u1.named := ⟨_, rfl⟩
  rw [← hu2] at K2
  have m2 : u2.m ≤ u1.m + 1 := by rw [hu2]; exact Nat.le_of_eq (U.m_named _)
  have HU2 := hide hu2
  have c2 := K2.c0
  clear hu2 f2 g2 F1 G1 K1 c1
  go_wp2_with fail
  refine (u_name w2 B ub b u2 K2 (by omega)).mono ?_; rintro e w3 ⟨rfl, K3, f3, g3⟩
  obtain ⟨s3, hs3⟩ : ∃ z, z = nameS u2.named.n := ⟨_, rfl⟩
  rw [← hs3]
  have HS3 := hide hs3
  have z3 : s3.size ≤ 1000 := by rw [hs3, nameS_size]; omega
  clear hs3
  have F3 := F2.trans f3
  have G3 := G2.trans g3
  obtain ⟨u3, hu3⟩ : ∃ z, z = u2.named := ⟨_, rfl⟩
  rw [← hu3] at K3
  have m3 : u3.m ≤ u2.m + 1 := by rw [hu3]; exact Nat.le_of_eq (U.m_named _)
  have HU3 := hide hu3
  have c3 := K3.c0
  clear hu3 f3 g3 F2 G2 K2 c2
  go_wp2_with fail
  refine (u_here w3 B ub b u3 s1 K3 (by omega) (by first | assumption | decide)).mono ?_; rintro e w4 ⟨rfl, K4, f4, g4⟩
  have F4 := F3.trans f4
  have G4 := G3.trans g4
  obtain ⟨u4, hu4⟩ : ∃ z, z = u3.here s1 := ⟨_, rfl⟩
  rw [← hu4] at K4
  have m4 : u4.m ≤ u3.m + 1 := by rw [hu4]; exact Nat.le_of_eq (U.m_here _ _)
  have HU4 := hide hu4
  have c4 := K4.c0
  clear hu4 f4 g4 F3 G3 K3 c3
  go_wp2_with fail
  refine (u_jump w4 B ub b u4 10 s2 K4 (by omega) (by first | assumption | decide)).mono ?_; rintro e w5 ⟨rfl, K5, f5, g5⟩
  have F5 := F4.trans f5
  have G5 := G4.trans g5
  obtain ⟨u5, hu5⟩ : ∃ z, z = u4.jump 10 s2 := ⟨_, rfl⟩
  rw [← hu5] at K5
  have m5 : u5.m ≤ u4.m + 2 := by rw [hu5]; exact Nat.le_of_eq (U.m_jump _ _ _)
  have HU5 := hide hu5
  have c5 := K5.c0
  clear hu5 f5 g5 F4 G4 K4 c4
  go_wp2_with fail
  refine (u_leap w5 B ub b u5 s3 K5 (by omega) (by first | assumption | decide)).mono ?_; rintro e w6 ⟨rfl, K6, f6, g6⟩
  have F6 := F5.trans f6
  have G6 := G5.trans g6
  obtain ⟨u6, hu6⟩ : ∃ z, z = u5.jump 14 s3 := ⟨_, rfl⟩
  rw [← hu6] at K6
  have m6 : u6.m ≤ u5.m + 2 := by rw [hu6]; exact Nat.le_of_eq (U.m_jump _ _ _)
  have HU6 := hide hu6
  have c6 := K6.c0
  clear hu6 f6 g6 F5 G5 K5 c5
  go_wp2_with fail
  refine (u_here w6 B ub b u6 s2 K6 (by omega) (by first | assumption | decide)).mono ?_; rintro e w7 ⟨rfl, K7, f7, g7⟩
  have F7 := F6.trans f7
  have G7 := G6.trans g7
  obtain ⟨u7, hu7⟩ : ∃ z, z = u6.here s2 := ⟨_, rfl⟩
  rw [← hu7] at K7
  have m7 : u7.m ≤ u6.m + 1 := by rw [hu7]; exact Nat.le_of_eq (U.m_here _ _)
  have HU7 := hide hu7
  have c7 := K7.c0
  clear hu7 f7 g7 F6 G6 K6 c6
  go_wp2_with fail
  refine (hdo.out w7 u7 F7 K7 (by omega)).mono ?_; rintro e w8 ⟨rfl, K8, f8, g8⟩
  have F8 := F7.trans f8
  have G8 := G7.trans g8
  obtain ⟨u8, hu8⟩ : ∃ z, z = f u7 := ⟨_, rfl⟩
  rw [← hu8] at K8
  have m8 : u8.m ≤ u7.m + k := by rw [hu8]; exact hf.out _
  have HU8 := hide hu8
  have c8 := K8.c0
  clear hu8 f8 g8 F7 G7 K7 c7
  go_wp2_with fail
  refine (u_tail w8 B ub b u8 10 10 K8 (by omega)).mono ?_; rintro e w9 ⟨rfl, K9, f9, g9⟩
  have F9 := F8.trans f9
  have G9 := G8.trans g9
  obtain ⟨u9, hu9⟩ : ∃ z, z = u8.emit ⟨4, 10, 10, 0, ByteArray.empty⟩ := ⟨_, rfl⟩
  rw [← hu9] at K9
  have m9 : u9.m ≤ u8.m + 1 := by rw [hu9]; exact Nat.le_of_eq (U.m_emit _ _)
  have HU9 := hide hu9
  have c9 := K9.c0
  clear hu9 f9 g9 F8 G8 K8 c8
  go_wp2_with fail
  refine (u_leap w9 B ub b u9 s1 K9 (by omega) (by first | assumption | decide)).mono ?_; rintro e w10 ⟨rfl, K10, f10, g10⟩
  have F10 := F9.trans f10
  have G10 := G9.trans g10
  obtain ⟨u10, hu10⟩ : ∃ z, z = u9.jump 14 s1 := ⟨_, rfl⟩
  rw [← hu10] at K10
  have m10 : u10.m ≤ u9.m + 2 := by rw [hu10]; exact Nat.le_of_eq (U.m_jump _ _ _)
  have HU10 := hide hu10
  have c10 := K10.c0
  clear hu10 f10 g10 F9 G9 K9 c9
  go_wp2_with fail
  refine (u_here w10 B ub b u10 s3 K10 (by omega) (by first | assumption | decide)).mono ?_; rintro e w11 ⟨rfl, K11, f11, g11⟩
  have F11 := F10.trans f11
  have G11 := G10.trans g11
  obtain ⟨u11, hu11⟩ : ∃ z, z = u10.here s3 := ⟨_, rfl⟩
  rw [← hu11] at K11
  have m11 : u11.m ≤ u10.m + 1 := by rw [hu11]; exact Nat.le_of_eq (U.m_here _ _)
  have HU11 := hide hu11
  have c11 := K11.c0
  clear hu11 f11 g11 F10 G10 K10 c10
  go_wp2
  go_end0
  refine ⟨rfl, ?_, F11, G11⟩
  have e : u11 = u.count f := by
    rw [HU11.out, HU10.out, HU9.out, HU8.out, HU7.out, HU6.out, HU5.out, HU4.out, HS1.out, HS2.out, HS3.out, HU3.out, HU2.out, HU1.out]
    rfl
  rw [← e]; exact K11

set_option maxHeartbeats 2000000 in
set_option maxRecDepth 100000 in
theorem u_kind1 (w : World) (B ub b : Nat) (u : U) (go : ByteArray) (hgo : go.size ≤ 1000) (f : U → U) (k fn x : Nat) (hf0 : ∀ v, (f v).m ≤ v.m + k) (hk : k ≤ 40)
    (hcf : ∀ W, Sem.run Try.prog (callFunc fn #[.pointer (some ⟨x, 0, none⟩)]) W = .ok (.enter fn #[.pointer (some ⟨x, 0, none⟩)]) W) (hdo0 : ∀ W v, FrU w W → UW W B ub b v → v.m ≤ 720 → Calls Try.prog fn #[.pointer (some ⟨x, 0, none⟩)] W (UPost B ub b (f v) W)) (h : UW w B ub b u) (hm : u.m ≤ 700) :
    Calls Try.prog 83 #[.pointer (some ⟨ub, 0, none⟩), .func (.func fn) #[] #[.pointer (some ⟨x, 0, none⟩)], .string go] w (UPost B ub b (u.kind f go) w) := by
  have hf := hide hf0
  have hdo := hide hdo0
  clear hf0 hdo0
  have F0 := FrU.refl w
  have G0 := Below.refl B w
  have K0 := h
  have c0 := h.c0
  clear h
  go_enter Try.func83, Try.ntmps83
  go_wp2_with fail
  refine (u_name w B ub b u K0 (by omega)).mono ?_; rintro e w1 ⟨rfl, K1, f1, g1⟩
  obtain ⟨s1, hs1⟩ : ∃ z, z = nameS u.named.n := ⟨_, rfl⟩
  rw [← hs1]
  have HS1 := hide hs1
  have z1 : s1.size ≤ 1000 := by rw [hs1, nameS_size]; omega
  clear hs1
  have F1 := F0.trans f1
  have G1 := G0.trans g1
  obtain ⟨u1, hu1⟩ : ∃ z, z = u.named := ⟨_, rfl⟩
  rw [← hu1] at K1
  have m1 : u1.m ≤ u.m + 1 := by rw [hu1]; exact Nat.le_of_eq (U.m_named _)
  have HU1 := hide hu1
  have c1 := K1.c0
  clear hu1 f1 g1 F0 G0 K0 c0
  go_wp2_with fail
  refine (u_jump w1 B ub b u1 5 s1 K1 (by omega) (by first | assumption | decide)).mono ?_; rintro e w2 ⟨rfl, K2, f2, g2⟩
  have F2 := F1.trans f2
  have G2 := G1.trans g2
  obtain ⟨u2, hu2⟩ : ∃ z, z = u1.jump 5 s1 := ⟨_, rfl⟩
  rw [← hu2] at K2
  have m2 : u2.m ≤ u1.m + 2 := by rw [hu2]; exact Nat.le_of_eq (U.m_jump _ _ _)
  have HU2 := hide hu2
  have c2 := K2.c0
  clear hu2 f2 g2 F1 G1 K1 c1
  go_wp2_with fail
  refine (hdo.out w2 u2 F2 K2 (by omega)).mono ?_; rintro e w3 ⟨rfl, K3, f3, g3⟩
  have F3 := F2.trans f3
  have G3 := G2.trans g3
  obtain ⟨u3, hu3⟩ : ∃ z, z = f u2 := ⟨_, rfl⟩
  rw [← hu3] at K3
  have m3 : u3.m ≤ u2.m + k := by rw [hu3]; exact hf.out _
  have HU3 := hide hu3
  have c3 := K3.c0
  clear hu3 f3 g3 F2 G2 K2 c2
  go_wp2_with fail
  refine (u_leap w3 B ub b u3 go K3 (by omega) (by first | assumption | decide)).mono ?_; rintro e w4 ⟨rfl, K4, f4, g4⟩
  have F4 := F3.trans f4
  have G4 := G3.trans g4
  obtain ⟨u4, hu4⟩ : ∃ z, z = u3.jump 14 go := ⟨_, rfl⟩
  rw [← hu4] at K4
  have m4 : u4.m ≤ u3.m + 2 := by rw [hu4]; exact Nat.le_of_eq (U.m_jump _ _ _)
  have HU4 := hide hu4
  have c4 := K4.c0
  clear hu4 f4 g4 F3 G3 K3 c3
  go_wp2_with fail
  refine (u_here w4 B ub b u4 s1 K4 (by omega) (by first | assumption | decide)).mono ?_; rintro e w5 ⟨rfl, K5, f5, g5⟩
  have F5 := F4.trans f5
  have G5 := G4.trans g5
  obtain ⟨u5, hu5⟩ : ∃ z, z = u4.here s1 := ⟨_, rfl⟩
  rw [← hu5] at K5
  have m5 : u5.m ≤ u4.m + 1 := by rw [hu5]; exact Nat.le_of_eq (U.m_here _ _)
  have HU5 := hide hu5
  have c5 := K5.c0
  clear hu5 f5 g5 F4 G4 K4 c4
  go_wp2_with fail
  refine (u_tail w5 B ub b u5 5 5 K5 (by omega)).mono ?_; rintro e w6 ⟨rfl, K6, f6, g6⟩
  have F6 := F5.trans f6
  have G6 := G5.trans g6
  obtain ⟨u6, hu6⟩ : ∃ z, z = u5.emit ⟨4, 5, 5, 0, ByteArray.empty⟩ := ⟨_, rfl⟩
  rw [← hu6] at K6
  have m6 : u6.m ≤ u5.m + 1 := by rw [hu6]; exact Nat.le_of_eq (U.m_emit _ _)
  have HU6 := hide hu6
  have c6 := K6.c0
  clear hu6 f6 g6 F5 G5 K5 c5
  go_wp2
  go_end0
  refine ⟨rfl, ?_, F6, G6⟩
  have e : u6 = u.kind f go := by
    rw [HU6.out, HU5.out, HU4.out, HU3.out, HU2.out, HS1.out, HU1.out]
    rfl
  rw [← e]; exact K6

set_option maxHeartbeats 2000000 in
set_option maxRecDepth 100000 in
theorem u_kind2 (w : World) (B ub b : Nat) (u : U) (go : ByteArray) (hgo : go.size ≤ 1000) (y : Nat) (f : U → U) (k fn x : Nat) (hf0 : ∀ v, (f v).m ≤ v.m + k) (hk : k ≤ 40)
    (hcf : ∀ W, Sem.run Try.prog (callFunc fn #[.pointer (some ⟨x, 0, none⟩), .pointer (some ⟨y, 0, none⟩)]) W = .ok (.enter fn #[.pointer (some ⟨x, 0, none⟩), .pointer (some ⟨y, 0, none⟩)]) W) (hdo0 : ∀ W v, FrU w W → UW W B ub b v → v.m ≤ 720 → Calls Try.prog fn #[.pointer (some ⟨x, 0, none⟩), .pointer (some ⟨y, 0, none⟩)] W (UPost B ub b (f v) W)) (h : UW w B ub b u) (hm : u.m ≤ 700) :
    Calls Try.prog 83 #[.pointer (some ⟨ub, 0, none⟩), .func (.func fn) #[] #[.pointer (some ⟨x, 0, none⟩), .pointer (some ⟨y, 0, none⟩)], .string go] w (UPost B ub b (u.kind f go) w) := by
  have hf := hide hf0
  have hdo := hide hdo0
  clear hf0 hdo0
  have F0 := FrU.refl w
  have G0 := Below.refl B w
  have K0 := h
  have c0 := h.c0
  clear h
  go_enter Try.func83, Try.ntmps83
  go_wp2_with fail
  refine (u_name w B ub b u K0 (by omega)).mono ?_; rintro e w1 ⟨rfl, K1, f1, g1⟩
  obtain ⟨s1, hs1⟩ : ∃ z, z = nameS u.named.n := ⟨_, rfl⟩
  rw [← hs1]
  have HS1 := hide hs1
  have z1 : s1.size ≤ 1000 := by rw [hs1, nameS_size]; omega
  clear hs1
  have F1 := F0.trans f1
  have G1 := G0.trans g1
  obtain ⟨u1, hu1⟩ : ∃ z, z = u.named := ⟨_, rfl⟩
  rw [← hu1] at K1
  have m1 : u1.m ≤ u.m + 1 := by rw [hu1]; exact Nat.le_of_eq (U.m_named _)
  have HU1 := hide hu1
  have c1 := K1.c0
  clear hu1 f1 g1 F0 G0 K0 c0
  go_wp2_with fail
  refine (u_jump w1 B ub b u1 5 s1 K1 (by omega) (by first | assumption | decide)).mono ?_; rintro e w2 ⟨rfl, K2, f2, g2⟩
  have F2 := F1.trans f2
  have G2 := G1.trans g2
  obtain ⟨u2, hu2⟩ : ∃ z, z = u1.jump 5 s1 := ⟨_, rfl⟩
  rw [← hu2] at K2
  have m2 : u2.m ≤ u1.m + 2 := by rw [hu2]; exact Nat.le_of_eq (U.m_jump _ _ _)
  have HU2 := hide hu2
  have c2 := K2.c0
  clear hu2 f2 g2 F1 G1 K1 c1
  go_wp2_with fail
  refine (hdo.out w2 u2 F2 K2 (by omega)).mono ?_; rintro e w3 ⟨rfl, K3, f3, g3⟩
  have F3 := F2.trans f3
  have G3 := G2.trans g3
  obtain ⟨u3, hu3⟩ : ∃ z, z = f u2 := ⟨_, rfl⟩
  rw [← hu3] at K3
  have m3 : u3.m ≤ u2.m + k := by rw [hu3]; exact hf.out _
  have HU3 := hide hu3
  have c3 := K3.c0
  clear hu3 f3 g3 F2 G2 K2 c2
  go_wp2_with fail
  refine (u_leap w3 B ub b u3 go K3 (by omega) (by first | assumption | decide)).mono ?_; rintro e w4 ⟨rfl, K4, f4, g4⟩
  have F4 := F3.trans f4
  have G4 := G3.trans g4
  obtain ⟨u4, hu4⟩ : ∃ z, z = u3.jump 14 go := ⟨_, rfl⟩
  rw [← hu4] at K4
  have m4 : u4.m ≤ u3.m + 2 := by rw [hu4]; exact Nat.le_of_eq (U.m_jump _ _ _)
  have HU4 := hide hu4
  have c4 := K4.c0
  clear hu4 f4 g4 F3 G3 K3 c3
  go_wp2_with fail
  refine (u_here w4 B ub b u4 s1 K4 (by omega) (by first | assumption | decide)).mono ?_; rintro e w5 ⟨rfl, K5, f5, g5⟩
  have F5 := F4.trans f5
  have G5 := G4.trans g5
  obtain ⟨u5, hu5⟩ : ∃ z, z = u4.here s1 := ⟨_, rfl⟩
  rw [← hu5] at K5
  have m5 : u5.m ≤ u4.m + 1 := by rw [hu5]; exact Nat.le_of_eq (U.m_here _ _)
  have HU5 := hide hu5
  have c5 := K5.c0
  clear hu5 f5 g5 F4 G4 K4 c4
  go_wp2_with fail
  refine (u_tail w5 B ub b u5 5 5 K5 (by omega)).mono ?_; rintro e w6 ⟨rfl, K6, f6, g6⟩
  have F6 := F5.trans f6
  have G6 := G5.trans g6
  obtain ⟨u6, hu6⟩ : ∃ z, z = u5.emit ⟨4, 5, 5, 0, ByteArray.empty⟩ := ⟨_, rfl⟩
  rw [← hu6] at K6
  have m6 : u6.m ≤ u5.m + 1 := by rw [hu6]; exact Nat.le_of_eq (U.m_emit _ _)
  have HU6 := hide hu6
  have c6 := K6.c0
  clear hu6 f6 g6 F5 G5 K5 c5
  go_wp2
  go_end0
  refine ⟨rfl, ?_, F6, G6⟩
  have e : u6 = u.kind f go := by
    rw [HU6.out, HU5.out, HU4.out, HU3.out, HU2.out, HS1.out, HU1.out]
    rfl
  rw [← e]; exact K6

set_option maxHeartbeats 2000000 in
set_option maxRecDepth 100000 in
theorem u_c139 (w : World) (B ub b : Nat) (u : U) (bx : Nat) (hx : Blk w bx 86 #[.pointer (some ⟨ub, 0, none⟩)]) (h : UW w B ub b u) (hm : u.m ≤ 850) :
    Calls Try.prog 139 #[.pointer (some ⟨bx, 0, none⟩)] w (UPost B ub b (tl11 u) w) := by
  have HX := hide hx
  have X0 := hx
  have x0 : w.cell? ⟨bx, 0, none⟩ = some (.pointer (some ⟨ub, 0, none⟩)) := by rw [X0.cell]; rfl
  clear hx
  have F0 := FrU.refl w
  have G0 := Below.refl B w
  have K0 := h
  have c0 := h.c0
  clear h
  go_enter Try.func139, Try.ntmps139
  go_wp2_with fail
  refine (u_tail w B ub b u 11 11 K0 (by omega)).mono ?_; rintro e w1 ⟨rfl, K1, f1, g1⟩
  have F1 := F0.trans f1
  have G1 := G0.trans g1
  obtain ⟨u1, hu1⟩ : ∃ z, z = u.emit ⟨4, 11, 11, 0, ByteArray.empty⟩ := ⟨_, rfl⟩
  rw [← hu1] at K1
  have m1 : u1.m ≤ u.m + 1 := by rw [hu1]; exact Nat.le_of_eq (U.m_emit _ _)
  have HU1 := hide hu1
  have c1 := K1.c0
  have X1 := F1.box HX.out
  have x1 : w1.cell? ⟨bx, 0, none⟩ = some (.pointer (some ⟨ub, 0, none⟩)) := by rw [X1.cell]; rfl
  clear hu1 f1 g1 F0 G0 K0 c0 x0 X0
  go_wp2
  go_end0
  refine ⟨rfl, ?_, F1, G1⟩
  have e : u1 = tl11 u := by
    rw [HU1.out]
    rfl
  rw [← e]; exact K1

set_option maxHeartbeats 2000000 in
set_option maxRecDepth 100000 in
theorem u_c140 (w : World) (B ub b : Nat) (u : U) (bx : Nat) (hx : Blk w bx 86 #[.pointer (some ⟨ub, 0, none⟩)]) (h : UW w B ub b u) (hm : u.m ≤ 850) :
    Calls Try.prog 140 #[.pointer (some ⟨bx, 0, none⟩)] w (UPost B ub b (stB u) w) := by
  have HX := hide hx
  have X0 := hx
  have x0 : w.cell? ⟨bx, 0, none⟩ = some (.pointer (some ⟨ub, 0, none⟩)) := by rw [X0.cell]; rfl
  clear hx
  have F0 := FrU.refl w
  have G0 := Below.refl B w
  have K0 := h
  have c0 := h.c0
  clear h
  go_enter Try.func140, Try.ntmps140
  go_wp2_with fail
  refine (u_head w B ub b u 13 11 K0 (by omega)).mono ?_; rintro e w1 ⟨rfl, K1, f1, g1⟩
  have F1 := F0.trans f1
  have G1 := G0.trans g1
  obtain ⟨u1, hu1⟩ : ∃ z, z = u.emit ⟨3, 13, 11, 0, ByteArray.empty⟩ := ⟨_, rfl⟩
  rw [← hu1] at K1
  have m1 : u1.m ≤ u.m + 1 := by rw [hu1]; exact Nat.le_of_eq (U.m_emit _ _)
  have HU1 := hide hu1
  have c1 := K1.c0
  have X1 := F1.box HX.out
  have x1 : w1.cell? ⟨bx, 0, none⟩ = some (.pointer (some ⟨ub, 0, none⟩)) := by rw [X1.cell]; rfl
  clear hu1 f1 g1 F0 G0 K0 c0 x0 X0
  go_wp2_with fail
  refine (u_cons w1 B ub b u1 12 13 12 K1 (by omega)).mono ?_; rintro e w2 ⟨rfl, K2, f2, g2⟩
  have F2 := F1.trans f2
  have G2 := G1.trans g2
  obtain ⟨u2, hu2⟩ : ∃ z, z = u1.emit ⟨2, 12, 13, 12, ByteArray.empty⟩ := ⟨_, rfl⟩
  rw [← hu2] at K2
  have m2 : u2.m ≤ u1.m + 1 := by rw [hu2]; exact Nat.le_of_eq (U.m_emit _ _)
  have HU2 := hide hu2
  have c2 := K2.c0
  have X2 := F2.box HX.out
  have x2 : w2.cell? ⟨bx, 0, none⟩ = some (.pointer (some ⟨ub, 0, none⟩)) := by rw [X2.cell]; rfl
  clear hu2 f2 g2 F1 G1 K1 c1 x1 X1
  go_wp2_with fail
  refine (u_tail w2 B ub b u2 11 11 K2 (by omega)).mono ?_; rintro e w3 ⟨rfl, K3, f3, g3⟩
  have F3 := F2.trans f3
  have G3 := G2.trans g3
  obtain ⟨u3, hu3⟩ : ∃ z, z = u2.emit ⟨4, 11, 11, 0, ByteArray.empty⟩ := ⟨_, rfl⟩
  rw [← hu3] at K3
  have m3 : u3.m ≤ u2.m + 1 := by rw [hu3]; exact Nat.le_of_eq (U.m_emit _ _)
  have HU3 := hide hu3
  have c3 := K3.c0
  have X3 := F3.box HX.out
  have x3 : w3.cell? ⟨bx, 0, none⟩ = some (.pointer (some ⟨ub, 0, none⟩)) := by rw [X3.cell]; rfl
  clear hu3 f3 g3 F2 G2 K2 c2 x2 X2
  go_wp2
  go_end0
  refine ⟨rfl, ?_, F3, G3⟩
  have e : u3 = stB u := by
    rw [HU3.out, HU2.out, HU1.out]
    rfl
  rw [← e]; exact K3

set_option maxHeartbeats 2000000 in
set_option maxRecDepth 100000 in
theorem u_next (w : World) (B ub b : Nat) (u : U)   (h : UW w B ub b u) (hm : u.m ≤ 850) :
    Calls Try.prog 90 #[.pointer (some ⟨ub, 0, none⟩)] w (UPost B ub b (u.next) w) := by
  have F0 := FrU.refl w
  have G0 := Below.refl B w
  have K0 := h
  have c0 := h.c0
  clear h
  go_enter Try.func90, Try.ntmps90
  go_wp2_with fail
  refine (u_tail w B ub b u 2 2 K0 (by omega)).mono ?_; rintro e w1 ⟨rfl, K1, f1, g1⟩
  have F1 := F0.trans f1
  have G1 := G0.trans g1
  obtain ⟨u1, hu1⟩ : ∃ z, z = u.emit ⟨4, 2, 2, 0, ByteArray.empty⟩ := ⟨_, rfl⟩
  rw [← hu1] at K1
  have m1 : u1.m ≤ u.m + 1 := by rw [hu1]; exact Nat.le_of_eq (U.m_emit _ _)
  have HU1 := hide hu1
  have c1 := K1.c0
  clear hu1 f1 g1 F0 G0 K0 c0
  go_wp2_with fail
  refine (u_set w1 B ub b u1 13 T.nil.str K1 (by omega)).mono ?_; rintro e w2 ⟨rfl, K2, f2, g2⟩
  have F2 := F1.trans f2
  have G2 := G1.trans g2
  obtain ⟨u2, hu2⟩ : ∃ z, z = u1.emit ⟨0, 13, 0, 0, T.nil.str⟩ := ⟨_, rfl⟩
  rw [← hu2] at K2
  have m2 : u2.m ≤ u1.m + 1 := by rw [hu2]; exact Nat.le_of_eq (U.m_emit _ _)
  have HU2 := hide hu2
  have c2 := K2.c0
  clear hu2 f2 g2 F1 G1 K1 c1
  go_wp2_with fail
  refine (u_cons w2 B ub b u2 3 13 3 K2 (by omega)).mono ?_; rintro e w3 ⟨rfl, K3, f3, g3⟩
  have F3 := F2.trans f3
  have G3 := G2.trans g3
  obtain ⟨u3, hu3⟩ : ∃ z, z = u2.emit ⟨2, 3, 13, 3, ByteArray.empty⟩ := ⟨_, rfl⟩
  rw [← hu3] at K3
  have m3 : u3.m ≤ u2.m + 1 := by rw [hu3]; exact Nat.le_of_eq (U.m_emit _ _)
  have HU3 := hide hu3
  have c3 := K3.c0
  clear hu3 f3 g3 F2 G2 K2 c2
  go_wp2
  go_end0
  refine ⟨rfl, ?_, F3, G3⟩
  have e : u3 = u.next := by
    rw [HU3.out, HU2.out, HU1.out]
    rfl
  rw [← e]; exact K3
end Go.Proofs.Ytgbieakahgkkpaa
