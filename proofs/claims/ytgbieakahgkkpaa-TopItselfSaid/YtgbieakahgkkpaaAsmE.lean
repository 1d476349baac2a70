/- The writer of the universal program: what is handed to it, and the whole. (Printed by gen/genasme.py.) -/
import Derived.Test.YtgbieakahgkkpaaAsmD
namespace Go.Proofs.Ytgbieakahgkkpaa
open Go.RowKit Go.Maps
attribute [local go_sem ↓] Go.wp_at_zero Go.wp_at_succ

theorem cf139 (x : Nat) (W : World) : Sem.run Try.prog (callFunc 139 #[.pointer (some ⟨x, 0, none⟩)]) W = .ok (.enter 139 #[.pointer (some ⟨x, 0, none⟩)]) W := by kernel_rfl
theorem cf140 (x : Nat) (W : World) : Sem.run Try.prog (callFunc 140 #[.pointer (some ⟨x, 0, none⟩)]) W = .ok (.enter 140 #[.pointer (some ⟨x, 0, none⟩)]) W := by kernel_rfl
theorem cf84 (x : Nat) (W : World) : Sem.run Try.prog (callFunc 84 #[.pointer (some ⟨x, 0, none⟩)]) W = .ok (.enter 84 #[.pointer (some ⟨x, 0, none⟩)]) W := by kernel_rfl
theorem cf85 (x : Nat) (W : World) : Sem.run Try.prog (callFunc 85 #[.pointer (some ⟨x, 0, none⟩)]) W = .ok (.enter 85 #[.pointer (some ⟨x, 0, none⟩)]) W := by kernel_rfl
theorem cf87 (x : Nat) (W : World) : Sem.run Try.prog (callFunc 87 #[.pointer (some ⟨x, 0, none⟩)]) W = .ok (.enter 87 #[.pointer (some ⟨x, 0, none⟩)]) W := by kernel_rfl
theorem cf93 (x : Nat) (W : World) : Sem.run Try.prog (callFunc 93 #[.pointer (some ⟨x, 0, none⟩)]) W = .ok (.enter 93 #[.pointer (some ⟨x, 0, none⟩)]) W := by kernel_rfl
theorem cf94 (x : Nat) (W : World) : Sem.run Try.prog (callFunc 94 #[.pointer (some ⟨x, 0, none⟩)]) W = .ok (.enter 94 #[.pointer (some ⟨x, 0, none⟩)]) W := by kernel_rfl
theorem cf90 (x : Nat) (W : World) : Sem.run Try.prog (callFunc 90 #[.pointer (some ⟨x, 0, none⟩)]) W = .ok (.enter 90 #[.pointer (some ⟨x, 0, none⟩)]) W := by kernel_rfl
theorem cf88 (x y : Nat) (W : World) : Sem.run Try.prog (callFunc 88 #[.pointer (some ⟨x, 0, none⟩), .pointer (some ⟨y, 0, none⟩)]) W = .ok (.enter 88 #[.pointer (some ⟨x, 0, none⟩), .pointer (some ⟨y, 0, none⟩)]) W := by kernel_rfl
theorem cf89 (x y : Nat) (W : World) : Sem.run Try.prog (callFunc 89 #[.pointer (some ⟨x, 0, none⟩), .pointer (some ⟨y, 0, none⟩)]) W = .ok (.enter 89 #[.pointer (some ⟨x, 0, none⟩), .pointer (some ⟨y, 0, none⟩)]) W := by kernel_rfl

set_option maxHeartbeats 2000000 in
set_option maxRecDepth 100000 in
theorem u_fetch_any (w : World) (B ub b : Nat) (u : U) (to : Int) (h : UW w B ub b u) (hm : u.m ≤ 780) :
    Calls Try.prog 86 #[.pointer (some ⟨ub, 0, none⟩), .int .i64 to] w (UPost B ub b (u.fetch to) w) := by
  have hB := h.size
  have F0 := FrU.refl (w.alloc (.cells #[.pointer (some ⟨ub, 0, none⟩)] 86))
  have G0 := Below.refl B (w.alloc (.cells #[.pointer (some ⟨ub, 0, none⟩)] 86))
  have K0 := h.alloc (.cells #[.pointer (some ⟨ub, 0, none⟩)] 86)
  have X0 := Blk.new w 86 #[.pointer (some ⟨ub, 0, none⟩)]
  have HX := hide X0
  have x0 : ((w.alloc (.cells #[.pointer (some ⟨ub, 0, none⟩)] 86))).cell? ⟨w.heap.size, 0, none⟩ = some (.pointer (some ⟨ub, 0, none⟩)) := by rw [X0.cell]; rfl
  have c0 := K0.c0
  clear h
  go_enter Try.func86, Try.ntmps86
  go_wp2_with fail
  refine (u_move (w.alloc (.cells #[.pointer (some ⟨ub, 0, none⟩)] 86)) B ub b u 11 4 K0 (by omega)).mono ?_; rintro e w1 ⟨rfl, K1, f1, g1⟩
  have F1 := F0.trans f1
  have G1 := G0.trans g1
  obtain ⟨u1, hu1⟩ : ∃ z, z = u.emit ⟨1, 11, 4, 0, ByteArray.empty⟩ := ⟨_, rfl⟩
  rw [← hu1] at K1
  have m1 : u1.m ≤ u.m + 1 := by rw [hu1]; exact Nat.le_of_eq (U.m_emit _ _)
  have HU1 := hide hu1
  have c1 := K1.c0
  have X1 := F1.box HX.out
  have x1 : w1.cell? ⟨w.heap.size, 0, none⟩ = some (.pointer (some ⟨ub, 0, none⟩)) := by rw [X1.cell]; rfl
  clear hu1 f1 g1 F0 G0 K0 c0 x0 X0
  go_wp2_with fail
  refine (u_count1 w1 B ub b u1 tl11 1 139 w.heap.size m_tl11 (by omega) (cf139 _) (fun W v hF hK hm => u_c139 W B ub b v w.heap.size (hF.box X1) hK (by omega)) K1 (by omega)).mono ?_; rintro e w2 ⟨rfl, K2, f2, g2⟩
  have F2 := F1.trans f2
  have G2 := G1.trans g2
  obtain ⟨u2, hu2⟩ : ∃ z, z = u1.count tl11 := ⟨_, rfl⟩
  rw [← hu2] at K2
  have m2 : u2.m ≤ u1.m + 14 := by rw [hu2]; exact U.m_count m_tl11 _
  have HU2 := hide hu2
  have c2 := K2.c0
  have X2 := F2.box HX.out
  have x2 : w2.cell? ⟨w.heap.size, 0, none⟩ = some (.pointer (some ⟨ub, 0, none⟩)) := by rw [X2.cell]; rfl
  clear hu2 f2 g2 F1 G1 K1 c1 x1 X1
  go_wp2_with fail
  refine (u_head w2 B ub b u2 to 11 K2 (by omega)).mono ?_; rintro e w3 ⟨rfl, K3, f3, g3⟩
  have F3 := F2.trans f3
  have G3 := G2.trans g3
  obtain ⟨u3, hu3⟩ : ∃ z, z = u2.emit ⟨3, to, 11, 0, ByteArray.empty⟩ := ⟨_, rfl⟩
  rw [← hu3] at K3
  have m3 : u3.m ≤ u2.m + 1 := by rw [hu3]; exact Nat.le_of_eq (U.m_emit _ _)
  have HU3 := hide hu3
  have c3 := K3.c0
  have X3 := F3.box HX.out
  have x3 : w3.cell? ⟨w.heap.size, 0, none⟩ = some (.pointer (some ⟨ub, 0, none⟩)) := by rw [X3.cell]; rfl
  clear hu3 f3 g3 F2 G2 K2 c2 x2 X2
  go_wp2
  go_end0
  refine ⟨rfl, ?_, ((FrU.refl w).alloc _).trans F3, ((Below.refl B w).alloc hB _).trans G3⟩
  have e : u3 = u.fetch to := by
    rw [HU3.out, HU2.out, HU1.out]
    rfl
  rw [← e]; exact K3

def U.store (u : U) : U :=
  let u6 := ((((((u.emit ⟨1, 11, 4, 0, ByteArray.empty⟩).emit ⟨0, 12, 0, 0, T.nil.str⟩).emit ⟨1, 10, 7, 0, ByteArray.empty⟩).count stB).emit ⟨4, 11, 11, 0, ByteArray.empty⟩).emit ⟨2, 11, 8, 11, ByteArray.empty⟩)
  let l := nameS u6.named.n
  let k := nameS u6.named.named.n
  let z := nameS u6.named.named.named.n
  ((((((((((u6.named.named.named.here l).jump 12 k).jump 14 z).here k).emit ⟨3, 13, 12, 0, ByteArray.empty⟩).emit ⟨2, 11, 13, 11, ByteArray.empty⟩).emit ⟨4, 12, 12, 0, ByteArray.empty⟩).jump 14 l).here z).emit ⟨1, 4, 11, 0, ByteArray.empty⟩)
set_option maxHeartbeats 2000000 in
set_option maxRecDepth 100000 in
theorem u_store_any (w : World) (B ub b : Nat) (u : U) (h : UW w B ub b u) (hm : u.m ≤ 700) :
    Calls Try.prog 91 #[.pointer (some ⟨ub, 0, none⟩)] w (UPost B ub b u.store w) := by
  have hB := h.size
  have F0 := FrU.refl (w.alloc (.cells #[.pointer (some ⟨ub, 0, none⟩)] 86))
  have G0 := Below.refl B (w.alloc (.cells #[.pointer (some ⟨ub, 0, none⟩)] 86))
  have K0 := h.alloc (.cells #[.pointer (some ⟨ub, 0, none⟩)] 86)
  have X0 := Blk.new w 86 #[.pointer (some ⟨ub, 0, none⟩)]
  have HX := hide X0
  have x0 : ((w.alloc (.cells #[.pointer (some ⟨ub, 0, none⟩)] 86))).cell? ⟨w.heap.size, 0, none⟩ = some (.pointer (some ⟨ub, 0, none⟩)) := by rw [X0.cell]; rfl
  have c0 := K0.c0
  clear h
  go_enter Try.func91, Try.ntmps91
  go_wp2_with fail
  refine (u_move (w.alloc (.cells #[.pointer (some ⟨ub, 0, none⟩)] 86)) B ub b u 11 4 K0 (by omega)).mono ?_; rintro e w1 ⟨rfl, K1, f1, g1⟩
  have F1 := F0.trans f1
  have G1 := G0.trans g1
  obtain ⟨u1, hu1⟩ : ∃ z, z = u.emit ⟨1, 11, 4, 0, ByteArray.empty⟩ := ⟨_, rfl⟩
  rw [← hu1] at K1
  have m1 : u1.m ≤ u.m + 1 := by rw [hu1]; exact Nat.le_of_eq (U.m_emit _ _)
  have HU1 := hide hu1
  have c1 := K1.c0
  have X1 := F1.box HX.out
  have x1 : w1.cell? ⟨w.heap.size, 0, none⟩ = some (.pointer (some ⟨ub, 0, none⟩)) := by rw [X1.cell]; rfl
  clear hu1 f1 g1 F0 G0 K0 c0 x0 X0
  go_wp2_with fail
  refine (u_set w1 B ub b u1 12 T.nil.str K1 (by omega)).mono ?_; rintro e w2 ⟨rfl, K2, f2, g2⟩
  have F2 := F1.trans f2
  have G2 := G1.trans g2
  obtain ⟨u2, hu2⟩ : ∃ z, z = u1.emit ⟨0, 12, 0, 0, T.nil.str⟩ := ⟨_, rfl⟩
  rw [← hu2] at K2
  have m2 : u2.m ≤ u1.m + 1 := by rw [hu2]; exact Nat.le_of_eq (U.m_emit _ _)
  have HU2 := hide hu2
  have c2 := K2.c0
  have X2 := F2.box HX.out
  have x2 : w2.cell? ⟨w.heap.size, 0, none⟩ = some (.pointer (some ⟨ub, 0, none⟩)) := by rw [X2.cell]; rfl
  clear hu2 f2 g2 F1 G1 K1 c1 x1 X1
  go_wp2_with fail
  refine (u_move w2 B ub b u2 10 7 K2 (by omega)).mono ?_; rintro e w3 ⟨rfl, K3, f3, g3⟩
  have F3 := F2.trans f3
  have G3 := G2.trans g3
  obtain ⟨u3, hu3⟩ : ∃ z, z = u2.emit ⟨1, 10, 7, 0, ByteArray.empty⟩ := ⟨_, rfl⟩
  rw [← hu3] at K3
  have m3 : u3.m ≤ u2.m + 1 := by rw [hu3]; exact Nat.le_of_eq (U.m_emit _ _)
  have HU3 := hide hu3
  have c3 := K3.c0
  have X3 := F3.box HX.out
  have x3 : w3.cell? ⟨w.heap.size, 0, none⟩ = some (.pointer (some ⟨ub, 0, none⟩)) := by rw [X3.cell]; rfl
  clear hu3 f3 g3 F2 G2 K2 c2 x2 X2
  go_wp2_with fail
  refine (u_count1 w3 B ub b u3 stB 3 140 w.heap.size m_stB (by omega) (cf140 _) (fun W v hF hK hm => u_c140 W B ub b v w.heap.size (hF.box X3) hK (by omega)) K3 (by omega)).mono ?_; rintro e w4 ⟨rfl, K4, f4, g4⟩
  have F4 := F3.trans f4
  have G4 := G3.trans g4
  obtain ⟨u4, hu4⟩ : ∃ z, z = u3.count stB := ⟨_, rfl⟩
  rw [← hu4] at K4
  have m4 : u4.m ≤ u3.m + 16 := by rw [hu4]; exact U.m_count m_stB _
  have HU4 := hide hu4
  have c4 := K4.c0
  have X4 := F4.box HX.out
  have x4 : w4.cell? ⟨w.heap.size, 0, none⟩ = some (.pointer (some ⟨ub, 0, none⟩)) := by rw [X4.cell]; rfl
  clear hu4 f4 g4 F3 G3 K3 c3 x3 X3
  go_wp2_with fail
  refine (u_tail w4 B ub b u4 11 11 K4 (by omega)).mono ?_; rintro e w5 ⟨rfl, K5, f5, g5⟩
  have F5 := F4.trans f5
  have G5 := G4.trans g5
  obtain ⟨u5, hu5⟩ : ∃ z, z = u4.emit ⟨4, 11, 11, 0, ByteArray.empty⟩ := ⟨_, rfl⟩
  rw [← hu5] at K5
  have m5 : u5.m ≤ u4.m + 1 := by rw [hu5]; exact Nat.le_of_eq (U.m_emit _ _)
  have HU5 := hide hu5
  have c5 := K5.c0
  have X5 := F5.box HX.out
  have x5 : w5.cell? ⟨w.heap.size, 0, none⟩ = some (.pointer (some ⟨ub, 0, none⟩)) := by rw [X5.cell]; rfl
  clear hu5 f5 g5 F4 G4 K4 c4 x4 X4
  go_wp2_with fail
  refine (u_cons w5 B ub b u5 11 8 11 K5 (by omega)).mono ?_; rintro e w6 ⟨rfl, K6, f6, g6⟩
  have F6 := F5.trans f6
  have G6 := G5.trans g6
  obtain ⟨u6, hu6⟩ : ∃ z, z = u5.emit ⟨2, 11, 8, 11, ByteArray.empty⟩ := ⟨_, rfl⟩
  rw [← hu6] at K6
  have m6 : u6.m ≤ u5.m + 1 := by rw [hu6]; exact Nat.le_of_eq (U.m_emit _ _)
  have HU6 := hide hu6
  have c6 := K6.c0
  have X6 := F6.box HX.out
  have x6 : w6.cell? ⟨w.heap.size, 0, none⟩ = some (.pointer (some ⟨ub, 0, none⟩)) := by rw [X6.cell]; rfl
  clear hu6 f6 g6 F5 G5 K5 c5 x5 X5
  go_wp2_with fail
  obtain ⟨v1, hv1⟩ : ∃ v, v = nameS u6.named.n := ⟨_, rfl⟩
  obtain ⟨v2, hv2⟩ : ∃ v, v = nameS u6.named.named.n := ⟨_, rfl⟩
  obtain ⟨v3, hv3⟩ : ∃ v, v = nameS u6.named.named.named.n := ⟨_, rfl⟩
  have N1 : ∀ W, UW W B ub b u6 → Calls Try.prog 138 #[.pointer (some ⟨ub, 0, none⟩)] W fun e w' => e = .returned (.string v1) ∧ UW w' B ub b u6.named ∧ FrU W w' ∧ Below B W w' := fun W h => by rw [hv1]; exact u_name W B ub b u6 h (by omega)
  have N2 : ∀ W, UW W B ub b u6.named → Calls Try.prog 138 #[.pointer (some ⟨ub, 0, none⟩)] W fun e w' => e = .returned (.string v2) ∧ UW w' B ub b u6.named.named ∧ FrU W w' ∧ Below B W w' := fun W h => by rw [hv2]; exact u_name W B ub b u6.named h (by rw [U.m_named]; omega)
  have N3 : ∀ W, UW W B ub b u6.named.named → Calls Try.prog 138 #[.pointer (some ⟨ub, 0, none⟩)] W fun e w' => e = .returned (.string v3) ∧ UW w' B ub b u6.named.named.named ∧ FrU W w' ∧ Below B W w' := fun W h => by rw [hv3]; exact u_name W B ub b u6.named.named h (by rw [U.m_named, U.m_named]; omega)
  have HN1 := hide N1
  have HN2 := hide N2
  have HN3 := hide N3
  have HV1 := hide hv1
  have HV2 := hide hv2
  have HV3 := hide hv3
  have X6b := hide X6
  clear N1 N2 N3 hv1 hv2 hv3 X6 c6
  go_region_held3 (fun W => W.cell? ⟨w.heap.size, 0, none⟩ = some (.pointer (some ⟨ub, 0, none⟩))) (first | go_keep | assumption) (first | (go_at_call 138; refine (HN3.out _ L2).mono ?_; rintro e w7 ⟨rfl, L3, p3, q3⟩; have XB3 := hide (p3.box XB2.out); have xx3 : w7.cell? ⟨w.heap.size, 0, none⟩ = some (.pointer (some ⟨ub, 0, none⟩)) := by rw [XB3.out.cell]; rfl) | (go_at_call 138; refine (HN2.out _ L1).mono ?_; rintro e y2 ⟨rfl, L2, p2, q2⟩; have XB2 := hide (p2.box XB1.out); have xx2 : y2.cell? ⟨w.heap.size, 0, none⟩ = some (.pointer (some ⟨ub, 0, none⟩)) := by rw [XB2.out.cell]; rfl) | (go_at_call 138; refine (HN1.out _ K6.drew).mono ?_; rintro e y1 ⟨rfl, L1, p1, q1⟩; have XB1 := hide (p1.box X6b.out.drew); have xx1 : y1.cell? ⟨w.heap.size, 0, none⟩ = some (.pointer (some ⟨ub, 0, none⟩)) := by rw [XB1.out.cell]; rfl))
  have K7 := L3
  have F7 := F6.drew.trans ((p1.trans p2).trans p3)
  have G7 := G6.drew.trans ((q1.trans q2).trans q3)
  obtain ⟨u7, hu7⟩ : ∃ z, z = u6.named.named.named := ⟨_, rfl⟩
  rw [← hu7] at K7
  have m7 : u7.m ≤ u6.m + 3 := by rw [hu7]; exact Nat.le_of_eq (by rw [U.m_named, U.m_named, U.m_named])
  have HU7 := hide hu7
  have c7 := K7.c0
  have X7 := XB3.out
  have x7 := xx3
  have z1 : v1.size ≤ 1000 := by rw [HV1.out, nameS_size]; omega
  have z2 : v2.size ≤ 1000 := by rw [HV2.out, nameS_size]; omega
  have z3 : v3.size ≤ 1000 := by rw [HV3.out, nameS_size]; omega
  clear hu7 L1 L2 L3 p1 p2 p3 q1 q2 q3 XB1 XB2 XB3 xx1 xx2 xx3 F6 G6 K6 X6b HN1 HN2 HN3 x6
  go_wp2_with fail
  refine (u_here w7 B ub b u7 v1 K7 (by omega) (by first | assumption | decide)).mono ?_; rintro e w8 ⟨rfl, K8, f8, g8⟩
  have F8 := F7.trans f8
  have G8 := G7.trans g8
  obtain ⟨u8, hu8⟩ : ∃ z, z = u7.here v1 := ⟨_, rfl⟩
  rw [← hu8] at K8
  have m8 : u8.m ≤ u7.m + 1 := by rw [hu8]; exact Nat.le_of_eq (U.m_here _ _)
  have HU8 := hide hu8
  have c8 := K8.c0
  have X8 := F8.box HX.out
  have x8 : w8.cell? ⟨w.heap.size, 0, none⟩ = some (.pointer (some ⟨ub, 0, none⟩)) := by rw [X8.cell]; rfl
  clear hu8 f8 g8 F7 G7 K7 c7 x7 X7
  go_wp2_with fail
  refine (u_jump w8 B ub b u8 12 v2 K8 (by omega) (by first | assumption | decide)).mono ?_; rintro e w9 ⟨rfl, K9, f9, g9⟩
  have F9 := F8.trans f9
  have G9 := G8.trans g9
  obtain ⟨u9, hu9⟩ : ∃ z, z = u8.jump 12 v2 := ⟨_, rfl⟩
  rw [← hu9] at K9
  have m9 : u9.m ≤ u8.m + 2 := by rw [hu9]; exact Nat.le_of_eq (U.m_jump _ _ _)
  have HU9 := hide hu9
  have c9 := K9.c0
  have X9 := F9.box HX.out
  have x9 : w9.cell? ⟨w.heap.size, 0, none⟩ = some (.pointer (some ⟨ub, 0, none⟩)) := by rw [X9.cell]; rfl
  clear hu9 f9 g9 F8 G8 K8 c8 x8 X8
  go_wp2_with fail
  refine (u_leap w9 B ub b u9 v3 K9 (by omega) (by first | assumption | decide)).mono ?_; rintro e w10 ⟨rfl, K10, f10, g10⟩
  have F10 := F9.trans f10
  have G10 := G9.trans g10
  obtain ⟨u10, hu10⟩ : ∃ z, z = u9.jump 14 v3 := ⟨_, rfl⟩
  rw [← hu10] at K10
  have m10 : u10.m ≤ u9.m + 2 := by rw [hu10]; exact Nat.le_of_eq (U.m_jump _ _ _)
  have HU10 := hide hu10
  have c10 := K10.c0
  have X10 := F10.box HX.out
  have x10 : w10.cell? ⟨w.heap.size, 0, none⟩ = some (.pointer (some ⟨ub, 0, none⟩)) := by rw [X10.cell]; rfl
  clear hu10 f10 g10 F9 G9 K9 c9 x9 X9
  go_wp2_with fail
  refine (u_here w10 B ub b u10 v2 K10 (by omega) (by first | assumption | decide)).mono ?_; rintro e w11 ⟨rfl, K11, f11, g11⟩
  have F11 := F10.trans f11
  have G11 := G10.trans g11
  obtain ⟨u11, hu11⟩ : ∃ z, z = u10.here v2 := ⟨_, rfl⟩
  rw [← hu11] at K11
  have m11 : u11.m ≤ u10.m + 1 := by rw [hu11]; exact Nat.le_of_eq (U.m_here _ _)
  have HU11 := hide hu11
  have c11 := K11.c0
  have X11 := F11.box HX.out
  have x11 : w11.cell? ⟨w.heap.size, 0, none⟩ = some (.pointer (some ⟨ub, 0, none⟩)) := by rw [X11.cell]; rfl
  clear hu11 f11 g11 F10 G10 K10 c10 x10 X10
  go_wp2_with fail
  refine (u_head w11 B ub b u11 13 12 K11 (by omega)).mono ?_; rintro e w12 ⟨rfl, K12, f12, g12⟩
  have F12 := F11.trans f12
  have G12 := G11.trans g12
  obtain ⟨u12, hu12⟩ : ∃ z, z = u11.emit ⟨3, 13, 12, 0, ByteArray.empty⟩ := ⟨_, rfl⟩
  rw [← hu12] at K12
  have m12 : u12.m ≤ u11.m + 1 := by rw [hu12]; exact Nat.le_of_eq (U.m_emit _ _)
  have HU12 := hide hu12
  have c12 := K12.c0
  have X12 := F12.box HX.out
  have x12 : w12.cell? ⟨w.heap.size, 0, none⟩ = some (.pointer (some ⟨ub, 0, none⟩)) := by rw [X12.cell]; rfl
  clear hu12 f12 g12 F11 G11 K11 c11 x11 X11
  go_wp2_with fail
  refine (u_cons w12 B ub b u12 11 13 11 K12 (by omega)).mono ?_; rintro e w13 ⟨rfl, K13, f13, g13⟩
  have F13 := F12.trans f13
  have G13 := G12.trans g13
  obtain ⟨u13, hu13⟩ : ∃ z, z = u12.emit ⟨2, 11, 13, 11, ByteArray.empty⟩ := ⟨_, rfl⟩
  rw [← hu13] at K13
  have m13 : u13.m ≤ u12.m + 1 := by rw [hu13]; exact Nat.le_of_eq (U.m_emit _ _)
  have HU13 := hide hu13
  have c13 := K13.c0
  have X13 := F13.box HX.out
  have x13 : w13.cell? ⟨w.heap.size, 0, none⟩ = some (.pointer (some ⟨ub, 0, none⟩)) := by rw [X13.cell]; rfl
  clear hu13 f13 g13 F12 G12 K12 c12 x12 X12
  go_wp2_with fail
  refine (u_tail w13 B ub b u13 12 12 K13 (by omega)).mono ?_; rintro e w14 ⟨rfl, K14, f14, g14⟩
  have F14 := F13.trans f14
  have G14 := G13.trans g14
  obtain ⟨u14, hu14⟩ : ∃ z, z = u13.emit ⟨4, 12, 12, 0, ByteArray.empty⟩ := ⟨_, rfl⟩
  rw [← hu14] at K14
  have m14 : u14.m ≤ u13.m + 1 := by rw [hu14]; exact Nat.le_of_eq (U.m_emit _ _)
  have HU14 := hide hu14
  have c14 := K14.c0
  have X14 := F14.box HX.out
  have x14 : w14.cell? ⟨w.heap.size, 0, none⟩ = some (.pointer (some ⟨ub, 0, none⟩)) := by rw [X14.cell]; rfl
  clear hu14 f14 g14 F13 G13 K13 c13 x13 X13
  go_wp2_with fail
  refine (u_leap w14 B ub b u14 v1 K14 (by omega) (by first | assumption | decide)).mono ?_; rintro e w15 ⟨rfl, K15, f15, g15⟩
  have F15 := F14.trans f15
  have G15 := G14.trans g15
  obtain ⟨u15, hu15⟩ : ∃ z, z = u14.jump 14 v1 := ⟨_, rfl⟩
  rw [← hu15] at K15
  have m15 : u15.m ≤ u14.m + 2 := by rw [hu15]; exact Nat.le_of_eq (U.m_jump _ _ _)
  have HU15 := hide hu15
  have c15 := K15.c0
  have X15 := F15.box HX.out
  have x15 : w15.cell? ⟨w.heap.size, 0, none⟩ = some (.pointer (some ⟨ub, 0, none⟩)) := by rw [X15.cell]; rfl
  clear hu15 f15 g15 F14 G14 K14 c14 x14 X14
  go_wp2_with fail
  refine (u_here w15 B ub b u15 v3 K15 (by omega) (by first | assumption | decide)).mono ?_; rintro e w16 ⟨rfl, K16, f16, g16⟩
  have F16 := F15.trans f16
  have G16 := G15.trans g16
  obtain ⟨u16, hu16⟩ : ∃ z, z = u15.here v3 := ⟨_, rfl⟩
  rw [← hu16] at K16
  have m16 : u16.m ≤ u15.m + 1 := by rw [hu16]; exact Nat.le_of_eq (U.m_here _ _)
  have HU16 := hide hu16
  have c16 := K16.c0
  have X16 := F16.box HX.out
  have x16 : w16.cell? ⟨w.heap.size, 0, none⟩ = some (.pointer (some ⟨ub, 0, none⟩)) := by rw [X16.cell]; rfl
  clear hu16 f16 g16 F15 G15 K15 c15 x15 X15
  go_wp2_with fail
  refine (u_move w16 B ub b u16 4 11 K16 (by omega)).mono ?_; rintro e w17 ⟨rfl, K17, f17, g17⟩
  have F17 := F16.trans f17
  have G17 := G16.trans g17
  obtain ⟨u17, hu17⟩ : ∃ z, z = u16.emit ⟨1, 4, 11, 0, ByteArray.empty⟩ := ⟨_, rfl⟩
  rw [← hu17] at K17
  have m17 : u17.m ≤ u16.m + 1 := by rw [hu17]; exact Nat.le_of_eq (U.m_emit _ _)
  have HU17 := hide hu17
  have c17 := K17.c0
  have X17 := F17.box HX.out
  have x17 : w17.cell? ⟨w.heap.size, 0, none⟩ = some (.pointer (some ⟨ub, 0, none⟩)) := by rw [X17.cell]; rfl
  clear hu17 f17 g17 F16 G16 K16 c16 x16 X16
  go_wp2
  go_end0
  refine ⟨rfl, ?_, ((FrU.refl w).alloc _).trans F17, ((Below.refl B w).alloc hB _).trans G17⟩
  have e : u17 = u.store := by
    rw [HU17.out, HU16.out, HU15.out, HU14.out, HU13.out, HU12.out, HU11.out, HU10.out, HU9.out, HU8.out, HU7.out, HV1.out, HV2.out, HV3.out, HU6.out, HU5.out, HU4.out, HU3.out, HU2.out, HU1.out]
    rfl
  rw [← e]; exact K17

def k84 (u : U) : U := u.emit ⟨1, 8, 6, 0, ByteArray.empty⟩
theorem m_k84 (v : U) : (k84 v).m ≤ v.m + 1 := by
  unfold k84
  rw [U.m_emit]; exact Nat.le_refl _

set_option maxHeartbeats 2000000 in
set_option maxRecDepth 100000 in
theorem u_c84 (w : World) (B ub b : Nat) (u : U) (bx : Nat) (hx : Blk w bx 86 #[.pointer (some ⟨ub, 0, none⟩)]) (h : UW w B ub b u) (hm : u.m ≤ 750) :
    Calls Try.prog 84 #[.pointer (some ⟨bx, 0, none⟩)] w (UPost B ub b (k84 u) w) := by
  have HX := hide hx
  have X0 := hx
  have x0 : w.cell? ⟨bx, 0, none⟩ = some (.pointer (some ⟨ub, 0, none⟩)) := by rw [X0.cell]; rfl
  clear hx
  have F0 := FrU.refl w
  have G0 := Below.refl B w
  have K0 := h
  have c0 := h.c0
  clear h
  go_enter Try.func84, Try.ntmps84
  go_wp2_with fail
  refine (u_move w B ub b u 8 6 K0 (by omega)).mono ?_; rintro e w1 ⟨rfl, K1, f1, g1⟩
  have F1 := F0.trans f1
  have G1 := G0.trans g1
  obtain ⟨u1, hu1⟩ : ∃ z, z = u.emit ⟨1, 8, 6, 0, ByteArray.empty⟩ := ⟨_, rfl⟩
  rw [← hu1] at K1
  have m1 : u1.m ≤ u.m + 1 := by rw [hu1]; exact Nat.le_of_eq (U.m_emit _ _)
  have HU1 := hide hu1
  have c1 := K1.c0
  have X1 := F1.box HX.out
  have x1 : w1.cell? ⟨bx, 0, none⟩ = some (.pointer (some ⟨ub, 0, none⟩)) := by rw [X1.cell]; rfl
  clear hu1 f1 g1 F0 G0 K0 c0 x0 X0
  go_wp2
  go_end0
  refine ⟨rfl, ?_, F1, G1⟩
  have e : u1 = k84 u := by
    rw [HU1.out]
    rfl
  rw [← e]; exact K1

def k85 (u : U) : U := (u.emit ⟨1, 10, 6, 0, ByteArray.empty⟩).fetch 8
theorem m_k85 (v : U) : (k85 v).m ≤ v.m + 17 := by
  unfold k85
  have := U.m_fetch 8 (v.emit ⟨1, 10, 6, 0, ByteArray.empty⟩); rw [U.m_emit] at this; omega

set_option maxHeartbeats 2000000 in
set_option maxRecDepth 100000 in
theorem u_c85 (w : World) (B ub b : Nat) (u : U) (bx : Nat) (hx : Blk w bx 86 #[.pointer (some ⟨ub, 0, none⟩)]) (h : UW w B ub b u) (hm : u.m ≤ 750) :
    Calls Try.prog 85 #[.pointer (some ⟨bx, 0, none⟩)] w (UPost B ub b (k85 u) w) := by
  have HX := hide hx
  have X0 := hx
  have x0 : w.cell? ⟨bx, 0, none⟩ = some (.pointer (some ⟨ub, 0, none⟩)) := by rw [X0.cell]; rfl
  clear hx
  have F0 := FrU.refl w
  have G0 := Below.refl B w
  have K0 := h
  have c0 := h.c0
  clear h
  go_enter Try.func85, Try.ntmps85
  go_wp2_with fail
  refine (u_move w B ub b u 10 6 K0 (by omega)).mono ?_; rintro e w1 ⟨rfl, K1, f1, g1⟩
  have F1 := F0.trans f1
  have G1 := G0.trans g1
  obtain ⟨u1, hu1⟩ : ∃ z, z = u.emit ⟨1, 10, 6, 0, ByteArray.empty⟩ := ⟨_, rfl⟩
  rw [← hu1] at K1
  have m1 : u1.m ≤ u.m + 1 := by rw [hu1]; exact Nat.le_of_eq (U.m_emit _ _)
  have HU1 := hide hu1
  have c1 := K1.c0
  have X1 := F1.box HX.out
  have x1 : w1.cell? ⟨bx, 0, none⟩ = some (.pointer (some ⟨ub, 0, none⟩)) := by rw [X1.cell]; rfl
  clear hu1 f1 g1 F0 G0 K0 c0 x0 X0
  go_wp2_with fail
  refine (u_fetch_any w1 B ub b u1 8 K1 (by omega)).mono ?_; rintro e w2 ⟨rfl, K2, f2, g2⟩
  have F2 := F1.trans f2
  have G2 := G1.trans g2
  obtain ⟨u2, hu2⟩ : ∃ z, z = u1.fetch 8 := ⟨_, rfl⟩
  rw [← hu2] at K2
  have m2 : u2.m ≤ u1.m + 16 := by rw [hu2]; exact U.m_fetch _ _
  have HU2 := hide hu2
  have c2 := K2.c0
  have X2 := F2.box HX.out
  have x2 : w2.cell? ⟨bx, 0, none⟩ = some (.pointer (some ⟨ub, 0, none⟩)) := by rw [X2.cell]; rfl
  clear hu2 f2 g2 F1 G1 K1 c1 x1 X1
  go_wp2
  go_end0
  refine ⟨rfl, ?_, F2, G2⟩
  have e : u2 = k85 u := by
    rw [HU2.out, HU1.out]
    rfl
  rw [← e]; exact K2

def k87 (u : U) : U := ((((u.emit ⟨3, 10, 6, 0, ByteArray.empty⟩).fetch 9).emit ⟨4, 10, 6, 0, ByteArray.empty⟩).fetch 8).emit ⟨2, 8, 9, 8, ByteArray.empty⟩
theorem m_k87 (v : U) : (k87 v).m ≤ v.m + 35 := by
  unfold k87
  have h1 := U.m_fetch 9 (v.emit ⟨3, 10, 6, 0, ByteArray.empty⟩); have h2 := U.m_fetch 8 (((v.emit ⟨3, 10, 6, 0, ByteArray.empty⟩).fetch 9).emit ⟨4, 10, 6, 0, ByteArray.empty⟩); rw [U.m_emit] at h1 h2 ⊢; omega

set_option maxHeartbeats 2000000 in
set_option maxRecDepth 100000 in
theorem u_c87 (w : World) (B ub b : Nat) (u : U) (bx : Nat) (hx : Blk w bx 86 #[.pointer (some ⟨ub, 0, none⟩)]) (h : UW w B ub b u) (hm : u.m ≤ 750) :
    Calls Try.prog 87 #[.pointer (some ⟨bx, 0, none⟩)] w (UPost B ub b (k87 u) w) := by
  have HX := hide hx
  have X0 := hx
  have x0 : w.cell? ⟨bx, 0, none⟩ = some (.pointer (some ⟨ub, 0, none⟩)) := by rw [X0.cell]; rfl
  clear hx
  have F0 := FrU.refl w
  have G0 := Below.refl B w
  have K0 := h
  have c0 := h.c0
  clear h
  go_enter Try.func87, Try.ntmps87
  go_wp2_with fail
  refine (u_head w B ub b u 10 6 K0 (by omega)).mono ?_; rintro e w1 ⟨rfl, K1, f1, g1⟩
  have F1 := F0.trans f1
  have G1 := G0.trans g1
  obtain ⟨u1, hu1⟩ : ∃ z, z = u.emit ⟨3, 10, 6, 0, ByteArray.empty⟩ := ⟨_, rfl⟩
  rw [← hu1] at K1
  have m1 : u1.m ≤ u.m + 1 := by rw [hu1]; exact Nat.le_of_eq (U.m_emit _ _)
  have HU1 := hide hu1
  have c1 := K1.c0
  have X1 := F1.box HX.out
  have x1 : w1.cell? ⟨bx, 0, none⟩ = some (.pointer (some ⟨ub, 0, none⟩)) := by rw [X1.cell]; rfl
  clear hu1 f1 g1 F0 G0 K0 c0 x0 X0
  go_wp2_with fail
  refine (u_fetch_any w1 B ub b u1 9 K1 (by omega)).mono ?_; rintro e w2 ⟨rfl, K2, f2, g2⟩
  have F2 := F1.trans f2
  have G2 := G1.trans g2
  obtain ⟨u2, hu2⟩ : ∃ z, z = u1.fetch 9 := ⟨_, rfl⟩
  rw [← hu2] at K2
  have m2 : u2.m ≤ u1.m + 16 := by rw [hu2]; exact U.m_fetch _ _
  have HU2 := hide hu2
  have c2 := K2.c0
  have X2 := F2.box HX.out
  have x2 : w2.cell? ⟨bx, 0, none⟩ = some (.pointer (some ⟨ub, 0, none⟩)) := by rw [X2.cell]; rfl
  clear hu2 f2 g2 F1 G1 K1 c1 x1 X1
  go_wp2_with fail
  refine (u_tail w2 B ub b u2 10 6 K2 (by omega)).mono ?_; rintro e w3 ⟨rfl, K3, f3, g3⟩
  have F3 := F2.trans f3
  have G3 := G2.trans g3
  obtain ⟨u3, hu3⟩ : ∃ z, z = u2.emit ⟨4, 10, 6, 0, ByteArray.empty⟩ := ⟨_, rfl⟩
  rw [← hu3] at K3
  have m3 : u3.m ≤ u2.m + 1 := by rw [hu3]; exact Nat.le_of_eq (U.m_emit _ _)
  have HU3 := hide hu3
  have c3 := K3.c0
  have X3 := F3.box HX.out
  have x3 : w3.cell? ⟨bx, 0, none⟩ = some (.pointer (some ⟨ub, 0, none⟩)) := by rw [X3.cell]; rfl
  clear hu3 f3 g3 F2 G2 K2 c2 x2 X2
  go_wp2_with fail
  refine (u_fetch_any w3 B ub b u3 8 K3 (by omega)).mono ?_; rintro e w4 ⟨rfl, K4, f4, g4⟩
  have F4 := F3.trans f4
  have G4 := G3.trans g4
  obtain ⟨u4, hu4⟩ : ∃ z, z = u3.fetch 8 := ⟨_, rfl⟩
  rw [← hu4] at K4
  have m4 : u4.m ≤ u3.m + 16 := by rw [hu4]; exact U.m_fetch _ _
  have HU4 := hide hu4
  have c4 := K4.c0
  have X4 := F4.box HX.out
  have x4 : w4.cell? ⟨bx, 0, none⟩ = some (.pointer (some ⟨ub, 0, none⟩)) := by rw [X4.cell]; rfl
  clear hu4 f4 g4 F3 G3 K3 c3 x3 X3
  go_wp2_with fail
  refine (u_cons w4 B ub b u4 8 9 8 K4 (by omega)).mono ?_; rintro e w5 ⟨rfl, K5, f5, g5⟩
  have F5 := F4.trans f5
  have G5 := G4.trans g5
  obtain ⟨u5, hu5⟩ : ∃ z, z = u4.emit ⟨2, 8, 9, 8, ByteArray.empty⟩ := ⟨_, rfl⟩
  rw [← hu5] at K5
  have m5 : u5.m ≤ u4.m + 1 := by rw [hu5]; exact Nat.le_of_eq (U.m_emit _ _)
  have HU5 := hide hu5
  have c5 := K5.c0
  have X5 := F5.box HX.out
  have x5 : w5.cell? ⟨bx, 0, none⟩ = some (.pointer (some ⟨ub, 0, none⟩)) := by rw [X5.cell]; rfl
  clear hu5 f5 g5 F4 G4 K4 c4 x4 X4
  go_wp2
  go_end0
  refine ⟨rfl, ?_, F5, G5⟩
  have e : u5 = k87 u := by
    rw [HU5.out, HU4.out, HU3.out, HU2.out, HU1.out]
    rfl
  rw [← e]; exact K5

def k93 (u : U) : U := u.emit ⟨4, 3, 3, 0, ByteArray.empty⟩
theorem m_k93 (v : U) : (k93 v).m ≤ v.m + 1 := by
  unfold k93
  rw [U.m_emit]; exact Nat.le_refl _

set_option maxHeartbeats 2000000 in
set_option maxRecDepth 100000 in
theorem u_c93 (w : World) (B ub b : Nat) (u : U) (bx : Nat) (hx : Blk w bx 86 #[.pointer (some ⟨ub, 0, none⟩)]) (h : UW w B ub b u) (hm : u.m ≤ 850) :
    Calls Try.prog 93 #[.pointer (some ⟨bx, 0, none⟩)] w (UPost B ub b (k93 u) w) := by
  have HX := hide hx
  have X0 := hx
  have x0 : w.cell? ⟨bx, 0, none⟩ = some (.pointer (some ⟨ub, 0, none⟩)) := by rw [X0.cell]; rfl
  clear hx
  have F0 := FrU.refl w
  have G0 := Below.refl B w
  have K0 := h
  have c0 := h.c0
  clear h
  go_enter Try.func93, Try.ntmps93
  go_wp2_with fail
  refine (u_tail w B ub b u 3 3 K0 (by omega)).mono ?_; rintro e w1 ⟨rfl, K1, f1, g1⟩
  have F1 := F0.trans f1
  have G1 := G0.trans g1
  obtain ⟨u1, hu1⟩ : ∃ z, z = u.emit ⟨4, 3, 3, 0, ByteArray.empty⟩ := ⟨_, rfl⟩
  rw [← hu1] at K1
  have m1 : u1.m ≤ u.m + 1 := by rw [hu1]; exact Nat.le_of_eq (U.m_emit _ _)
  have HU1 := hide hu1
  have c1 := K1.c0
  have X1 := F1.box HX.out
  have x1 : w1.cell? ⟨bx, 0, none⟩ = some (.pointer (some ⟨ub, 0, none⟩)) := by rw [X1.cell]; rfl
  clear hu1 f1 g1 F0 G0 K0 c0 x0 X0
  go_wp2
  go_end0
  refine ⟨rfl, ?_, F1, G1⟩
  have e : u1 = k93 u := by
    rw [HU1.out]
    rfl
  rw [← e]; exact K1

def k94 (u : U) : U := u.emit ⟨4, 2, 2, 0, ByteArray.empty⟩
theorem m_k94 (v : U) : (k94 v).m ≤ v.m + 1 := by
  unfold k94
  rw [U.m_emit]; exact Nat.le_refl _

set_option maxHeartbeats 2000000 in
set_option maxRecDepth 100000 in
theorem u_c94 (w : World) (B ub b : Nat) (u : U) (bx : Nat) (hx : Blk w bx 86 #[.pointer (some ⟨ub, 0, none⟩)]) (h : UW w B ub b u) (hm : u.m ≤ 850) :
    Calls Try.prog 94 #[.pointer (some ⟨bx, 0, none⟩)] w (UPost B ub b (k94 u) w) := by
  have HX := hide hx
  have X0 := hx
  have x0 : w.cell? ⟨bx, 0, none⟩ = some (.pointer (some ⟨ub, 0, none⟩)) := by rw [X0.cell]; rfl
  clear hx
  have F0 := FrU.refl w
  have G0 := Below.refl B w
  have K0 := h
  have c0 := h.c0
  clear h
  go_enter Try.func94, Try.ntmps94
  go_wp2_with fail
  refine (u_tail w B ub b u 2 2 K0 (by omega)).mono ?_; rintro e w1 ⟨rfl, K1, f1, g1⟩
  have F1 := F0.trans f1
  have G1 := G0.trans g1
  obtain ⟨u1, hu1⟩ : ∃ z, z = u.emit ⟨4, 2, 2, 0, ByteArray.empty⟩ := ⟨_, rfl⟩
  rw [← hu1] at K1
  have m1 : u1.m ≤ u.m + 1 := by rw [hu1]; exact Nat.le_of_eq (U.m_emit _ _)
  have HU1 := hide hu1
  have c1 := K1.c0
  have X1 := F1.box HX.out
  have x1 : w1.cell? ⟨bx, 0, none⟩ = some (.pointer (some ⟨ub, 0, none⟩)) := by rw [X1.cell]; rfl
  clear hu1 f1 g1 F0 G0 K0 c0 x0 X0
  go_wp2
  go_end0
  refine ⟨rfl, ?_, F1, G1⟩
  have e : u1 = k94 u := by
    rw [HU1.out]
    rfl
  rw [← e]; exact K1

def k88 (u : U) : U := (k85 u).emit ⟨3, 8, 8, 0, ByteArray.empty⟩
theorem m_k88 (v : U) : (k88 v).m ≤ v.m + 18 := by
  unfold k88
  rw [U.m_emit]; have := m_k85 v; omega

set_option maxHeartbeats 2000000 in
set_option maxRecDepth 100000 in
theorem u_c88 (w : World) (B ub b : Nat) (u : U) (bx gx : Nat) (hx : Blk w bx 86 #[.pointer (some ⟨ub, 0, none⟩)]) (hg : Blk w gx 1 #[.func (.func 85) #[] #[.pointer (some ⟨bx, 0, none⟩)]]) (h : UW w B ub b u) (hm : u.m ≤ 740) :
    Calls Try.prog 88 #[.pointer (some ⟨gx, 0, none⟩), .pointer (some ⟨bx, 0, none⟩)] w (UPost B ub b (k88 u) w) := by
  have HX := hide hx
  have X0 := hx
  have x0 : w.cell? ⟨bx, 0, none⟩ = some (.pointer (some ⟨ub, 0, none⟩)) := by rw [X0.cell]; rfl
  clear hx
  have gc : w.cell? ⟨gx, 0, none⟩ = some (.func (.func 85) #[] #[.pointer (some ⟨bx, 0, none⟩)]) := by rw [hg.cell]; rfl
  clear hg
  have F0 := FrU.refl w
  have G0 := Below.refl B w
  have K0 := h
  have c0 := h.c0
  clear h
  go_enter Try.func88, Try.ntmps88
  go_wp2_with fail
  refine (u_c85 w B ub b u bx X0 K0 (by omega)).mono ?_; rintro e w1 ⟨rfl, K1, f1, g1⟩
  have F1 := F0.trans f1
  have G1 := G0.trans g1
  obtain ⟨u1, hu1⟩ : ∃ z, z = k85 u := ⟨_, rfl⟩
  rw [← hu1] at K1
  have m1 : u1.m ≤ u.m + 17 := by rw [hu1]; exact m_k85 _
  have HU1 := hide hu1
  have c1 := K1.c0
  have X1 := F1.box HX.out
  have x1 : w1.cell? ⟨bx, 0, none⟩ = some (.pointer (some ⟨ub, 0, none⟩)) := by rw [X1.cell]; rfl
  clear hu1 f1 g1 F0 G0 K0 c0 x0 X0
  go_wp2_with fail
  refine (u_head w1 B ub b u1 8 8 K1 (by omega)).mono ?_; rintro e w2 ⟨rfl, K2, f2, g2⟩
  have F2 := F1.trans f2
  have G2 := G1.trans g2
  obtain ⟨u2, hu2⟩ : ∃ z, z = u1.emit ⟨3, 8, 8, 0, ByteArray.empty⟩ := ⟨_, rfl⟩
  rw [← hu2] at K2
  have m2 : u2.m ≤ u1.m + 1 := by rw [hu2]; exact Nat.le_of_eq (U.m_emit _ _)
  have HU2 := hide hu2
  have c2 := K2.c0
  have X2 := F2.box HX.out
  have x2 : w2.cell? ⟨bx, 0, none⟩ = some (.pointer (some ⟨ub, 0, none⟩)) := by rw [X2.cell]; rfl
  clear hu2 f2 g2 F1 G1 K1 c1 x1 X1
  go_wp2
  go_end0
  refine ⟨rfl, ?_, F2, G2⟩
  have e : u2 = k88 u := by
    rw [HU2.out, HU1.out]
    rfl
  rw [← e]; exact K2

def k89 (u : U) : U := (k85 u).emit ⟨4, 8, 8, 0, ByteArray.empty⟩
theorem m_k89 (v : U) : (k89 v).m ≤ v.m + 18 := by
  unfold k89
  rw [U.m_emit]; have := m_k85 v; omega

set_option maxHeartbeats 2000000 in
set_option maxRecDepth 100000 in
theorem u_c89 (w : World) (B ub b : Nat) (u : U) (bx gx : Nat) (hx : Blk w bx 86 #[.pointer (some ⟨ub, 0, none⟩)]) (hg : Blk w gx 1 #[.func (.func 85) #[] #[.pointer (some ⟨bx, 0, none⟩)]]) (h : UW w B ub b u) (hm : u.m ≤ 740) :
    Calls Try.prog 89 #[.pointer (some ⟨gx, 0, none⟩), .pointer (some ⟨bx, 0, none⟩)] w (UPost B ub b (k89 u) w) := by
  have HX := hide hx
  have X0 := hx
  have x0 : w.cell? ⟨bx, 0, none⟩ = some (.pointer (some ⟨ub, 0, none⟩)) := by rw [X0.cell]; rfl
  clear hx
  have gc : w.cell? ⟨gx, 0, none⟩ = some (.func (.func 85) #[] #[.pointer (some ⟨bx, 0, none⟩)]) := by rw [hg.cell]; rfl
  clear hg
  have F0 := FrU.refl w
  have G0 := Below.refl B w
  have K0 := h
  have c0 := h.c0
  clear h
  go_enter Try.func89, Try.ntmps89
  go_wp2_with fail
  refine (u_c85 w B ub b u bx X0 K0 (by omega)).mono ?_; rintro e w1 ⟨rfl, K1, f1, g1⟩
  have F1 := F0.trans f1
  have G1 := G0.trans g1
  obtain ⟨u1, hu1⟩ : ∃ z, z = k85 u := ⟨_, rfl⟩
  rw [← hu1] at K1
  have m1 : u1.m ≤ u.m + 17 := by rw [hu1]; exact m_k85 _
  have HU1 := hide hu1
  have c1 := K1.c0
  have X1 := F1.box HX.out
  have x1 : w1.cell? ⟨bx, 0, none⟩ = some (.pointer (some ⟨ub, 0, none⟩)) := by rw [X1.cell]; rfl
  clear hu1 f1 g1 F0 G0 K0 c0 x0 X0
  go_wp2_with fail
  refine (u_tail w1 B ub b u1 8 8 K1 (by omega)).mono ?_; rintro e w2 ⟨rfl, K2, f2, g2⟩
  have F2 := F1.trans f2
  have G2 := G1.trans g2
  obtain ⟨u2, hu2⟩ : ∃ z, z = u1.emit ⟨4, 8, 8, 0, ByteArray.empty⟩ := ⟨_, rfl⟩
  rw [← hu2] at K2
  have m2 : u2.m ≤ u1.m + 1 := by rw [hu2]; exact Nat.le_of_eq (U.m_emit _ _)
  have HU2 := hide hu2
  have c2 := K2.c0
  have X2 := F2.box HX.out
  have x2 : w2.cell? ⟨bx, 0, none⟩ = some (.pointer (some ⟨ub, 0, none⟩)) := by rw [X2.cell]; rfl
  clear hu2 f2 g2 F1 G1 K1 c1 x1 X1
  go_wp2
  go_end0
  refine ⟨rfl, ?_, F2, G2⟩
  have e : u2 = k89 u := by
    rw [HU2.out, HU1.out]
    rfl
  rw [← e]; exact K2
end Go.Proofs.Ytgbieakahgkkpaa
