/- The universal program is written. (Printed by gen/genasmg.py.) -/
import Derived.Test.YtgbieakahgkkpaaAsmF
import Derived.Test.YtgbieakahgkkpaaUniA
import Derived.Laws.EntriesVeiled
namespace Go.Proofs.Ytgbieakahgkkpaa
open Go.RowKit Go.Maps
attribute [local go_sem ↓] Go.wp_at_zero Go.wp_at_succ

theorem U.m_store (u : U) : u.store.m ≤ u.m + 60 := by
  unfold U.store
  have := U.m_count m_stB (((u.emit ⟨1, 11, 4, 0, ByteArray.empty⟩).emit ⟨0, 12, 0, 0, T.nil.str⟩).emit ⟨1, 10, 7, 0, ByteArray.empty⟩)
  simp only [U.m_named, U.m_emit, U.m_here, U.m_jump] at this ⊢
  omega
def uniU : U := (((((((((((((((((((((((((((((((((((((((((((⟨0, Asm.new⟩ : U).emit ⟨3, 1, 0, 0, ByteArray.empty⟩).emit ⟨4, 8, 0, 0, ByteArray.empty⟩).emit ⟨1, 2, 1, 0, ByteArray.empty⟩).emit ⟨2, 4, 8, 4, ByteArray.empty⟩).emit ⟨0, 14, 0, 0, ⟨#[49, 48, 48]⟩⟩).here ⟨#[108, 111, 111, 112]⟩).jump 2 ⟨#[103, 111]⟩).emit ⟨3, 0, 4, 0, ByteArray.empty⟩).jump 14 ⟨#[101, 110, 100]⟩).here ⟨#[103, 111]⟩).emit ⟨3, 13, 2, 0, ByteArray.empty⟩).emit ⟨3, 5, 13, 0, ByteArray.empty⟩).emit ⟨4, 6, 13, 0, ByteArray.empty⟩).emit ⟨3, 7, 6, 0, ByteArray.empty⟩).emit ⟨4, 6, 6, 0, ByteArray.empty⟩).kind k84 ⟨#[115, 116, 111, 114, 101]⟩).kind k85 ⟨#[115, 116, 111, 114, 101]⟩).kind k87 ⟨#[115, 116, 111, 114, 101]⟩).kind k88 ⟨#[115, 116, 111, 114, 101]⟩).kind k89 ⟨#[115, 116, 111, 114, 101]⟩).emit ⟨1, 10, 7, 0, ByteArray.empty⟩).fetch 8).jump 8 ⟨#[116, 97, 107, 101, 110]⟩).here ⟨#[110, 101, 120, 116]⟩).next).jump 14 ⟨#[108, 111, 111, 112]⟩).here ⟨#[115, 116, 111, 114, 101]⟩).store).jump 14 ⟨#[110, 101, 120, 116]⟩).here ⟨#[116, 97, 107, 101, 110]⟩).emit ⟨3, 13, 6, 0, ByteArray.empty⟩).emit ⟨4, 10, 6, 0, ByteArray.empty⟩).jump 13 ⟨#[98, 97, 99, 107]⟩).count U.next).jump 14 ⟨#[108, 111, 111, 112]⟩).here ⟨#[98, 97, 99, 107]⟩).count k93).emit ⟨1, 2, 1, 0, ByteArray.empty⟩).emit ⟨1, 10, 3, 0, ByteArray.empty⟩).count k94).jump 14 ⟨#[108, 111, 111, 112]⟩).here ⟨#[101, 110, 100]⟩)

set_option maxHeartbeats 8000000 in
set_option maxRecDepth 100000 in
theorem universal_raw (w : World) (hN : uniU.a.p.length = 129) (hok : uniU.a.ok) : Calls Try.prog 20 #[] w fun e w' => ∃ A cap, e = .returned (.slice A 129 cap) ∧ w'.ownsRow w.heap.size 41 5 (.slice A 129 cap) 129 (progCells uniU.a.done) ∧ Below w.heap.size w w' := by
  have HOK := hide hok
  have HNN := hide hN
  clear hok hN
  go_enter Try.func20, Try.ntmps20
  go_wp2_with fail
  refine (aw_new w).mono ?_; rintro e wI ⟨rfl, KI, GI⟩
  have sI := GI.size
  have gI : w.heap.size + 2 < wI.heap.size := by obtain ⟨bm, bf, N, v, Dm, Df, hb, _⟩ := KI; exact hb.lt
  obtain ⟨u, hu⟩ : ∃ z, z = (⟨0, Asm.new⟩ : U) := ⟨_, rfl⟩
  have hm : u.m ≤ 0 := by rw [hu]; exact Nat.le_refl _
  have F0 := FrU.refl ((wI.alloc (.cells #[.pointer (some ⟨w.heap.size + 2, 0, none⟩), .int .i64 0] 90)).alloc (.cells #[.pointer (some ⟨wI.heap.size, 0, none⟩)] 86))
  have G0 : Below w.heap.size w ((wI.alloc (.cells #[.pointer (some ⟨w.heap.size + 2, 0, none⟩), .int .i64 0] 90)).alloc (.cells #[.pointer (some ⟨wI.heap.size, 0, none⟩)] 86)) := (GI.alloc sI _).alloc (by simp; omega) _
  have K0 : UW ((wI.alloc (.cells #[.pointer (some ⟨w.heap.size + 2, 0, none⟩), .int .i64 0] 90)).alloc (.cells #[.pointer (some ⟨wI.heap.size, 0, none⟩)] 86)) w.heap.size wI.heap.size (w.heap.size + 2) u := by
    refine UW.alloc ⟨?_, ?_, sI⟩ _
    · rw [hu]; exact Blk.new wI 90 #[.pointer (some ⟨w.heap.size + 2, 0, none⟩), .int .i64 0]
    · rw [hu]; exact WR.alloc (u := ⟨0, Asm.new⟩) KI _
  have HU0 := hide hu
  clear hu KI
  have X0 := Blk.new (wI.alloc (.cells #[.pointer (some ⟨w.heap.size + 2, 0, none⟩), .int .i64 0] 90)) 86 #[.pointer (some ⟨wI.heap.size, 0, none⟩)]
  simp only [World.size_alloc] at X0
  have HX := hide X0
  have x0 : ((wI.alloc (.cells #[.pointer (some ⟨w.heap.size + 2, 0, none⟩), .int .i64 0] 90)).alloc (.cells #[.pointer (some ⟨wI.heap.size, 0, none⟩)] 86)).cell? ⟨wI.heap.size + 1, 0, none⟩ = some (.pointer (some ⟨wI.heap.size, 0, none⟩)) := by rw [X0.cell]; rfl
  have c0 := K0.c0
  go_wp2_with fail
  refine (u_head ((wI.alloc (.cells #[.pointer (some ⟨w.heap.size + 2, 0, none⟩), .int .i64 0] 90)).alloc (.cells #[.pointer (some ⟨wI.heap.size, 0, none⟩)] 86)) w.heap.size wI.heap.size (w.heap.size + 2) u 1 0 K0 (by omega)).mono ?_; rintro e w1 ⟨rfl, K1, f1, g1⟩
  have F1 := F0.trans f1
  have G1 := G0.trans g1
  obtain ⟨u1, hu1⟩ : ∃ z, z = u.emit ⟨3, 1, 0, 0, ByteArray.empty⟩ := ⟨_, rfl⟩
  rw [← hu1] at K1
  have m1 : u1.m ≤ u.m + 1 := by rw [hu1]; exact Nat.le_of_eq (U.m_emit _ _)
  have HU1 := hide hu1
  have c1 := K1.c0
  have X1 := F1.box HX.out
  have x1 : w1.cell? ⟨wI.heap.size + 1, 0, none⟩ = some (.pointer (some ⟨wI.heap.size, 0, none⟩)) := by rw [X1.cell]; rfl
  clear hu1 f1 g1 F0 G0 K0 c0 x0 X0
  go_wp2_with fail
  refine (u_tail w1 w.heap.size wI.heap.size (w.heap.size + 2) u1 8 0 K1 (by omega)).mono ?_; rintro e w2 ⟨rfl, K2, f2, g2⟩
  have F2 := F1.trans f2
  have G2 := G1.trans g2
  obtain ⟨u2, hu2⟩ : ∃ z, z = u1.emit ⟨4, 8, 0, 0, ByteArray.empty⟩ := ⟨_, rfl⟩
  rw [← hu2] at K2
  have m2 : u2.m ≤ u1.m + 1 := by rw [hu2]; exact Nat.le_of_eq (U.m_emit _ _)
  have HU2 := hide hu2
  have c2 := K2.c0
  have X2 := F2.box HX.out
  have x2 : w2.cell? ⟨wI.heap.size + 1, 0, none⟩ = some (.pointer (some ⟨wI.heap.size, 0, none⟩)) := by rw [X2.cell]; rfl
  clear hu2 f2 g2 F1 G1 K1 c1 x1 X1
  go_wp2_with fail
  refine (u_move w2 w.heap.size wI.heap.size (w.heap.size + 2) u2 2 1 K2 (by omega)).mono ?_; rintro e w3 ⟨rfl, K3, f3, g3⟩
  have F3 := F2.trans f3
  have G3 := G2.trans g3
  obtain ⟨u3, hu3⟩ : ∃ z, z = u2.emit ⟨1, 2, 1, 0, ByteArray.empty⟩ := ⟨_, rfl⟩
  rw [← hu3] at K3
  have m3 : u3.m ≤ u2.m + 1 := by rw [hu3]; exact Nat.le_of_eq (U.m_emit _ _)
  have HU3 := hide hu3
  have c3 := K3.c0
  have X3 := F3.box HX.out
  have x3 : w3.cell? ⟨wI.heap.size + 1, 0, none⟩ = some (.pointer (some ⟨wI.heap.size, 0, none⟩)) := by rw [X3.cell]; rfl
  clear hu3 f3 g3 F2 G2 K2 c2 x2 X2
  go_wp2_with fail
  refine (u_cons w3 w.heap.size wI.heap.size (w.heap.size + 2) u3 4 8 4 K3 (by omega)).mono ?_; rintro e w4 ⟨rfl, K4, f4, g4⟩
  have F4 := F3.trans f4
  have G4 := G3.trans g4
  obtain ⟨u4, hu4⟩ : ∃ z, z = u3.emit ⟨2, 4, 8, 4, ByteArray.empty⟩ := ⟨_, rfl⟩
  rw [← hu4] at K4
  have m4 : u4.m ≤ u3.m + 1 := by rw [hu4]; exact Nat.le_of_eq (U.m_emit _ _)
  have HU4 := hide hu4
  have c4 := K4.c0
  have X4 := F4.box HX.out
  have x4 : w4.cell? ⟨wI.heap.size + 1, 0, none⟩ = some (.pointer (some ⟨wI.heap.size, 0, none⟩)) := by rw [X4.cell]; rfl
  clear hu4 f4 g4 F3 G3 K3 c3 x3 X3
  go_wp2_with fail
  refine (u_set w4 w.heap.size wI.heap.size (w.heap.size + 2) u4 14 ⟨#[49, 48, 48]⟩ K4 (by omega)).mono ?_; rintro e w5 ⟨rfl, K5, f5, g5⟩
  have F5 := F4.trans f5
  have G5 := G4.trans g5
  obtain ⟨u5, hu5⟩ : ∃ z, z = u4.emit ⟨0, 14, 0, 0, ⟨#[49, 48, 48]⟩⟩ := ⟨_, rfl⟩
  rw [← hu5] at K5
  have m5 : u5.m ≤ u4.m + 1 := by rw [hu5]; exact Nat.le_of_eq (U.m_emit _ _)
  have HU5 := hide hu5
  have c5 := K5.c0
  have X5 := F5.box HX.out
  have x5 : w5.cell? ⟨wI.heap.size + 1, 0, none⟩ = some (.pointer (some ⟨wI.heap.size, 0, none⟩)) := by rw [X5.cell]; rfl
  clear hu5 f5 g5 F4 G4 K4 c4 x4 X4
  go_wp2_with fail
  refine (u_here w5 w.heap.size wI.heap.size (w.heap.size + 2) u5 ⟨#[108, 111, 111, 112]⟩ K5 (by omega) (by first | assumption | decide)).mono ?_; rintro e w6 ⟨rfl, K6, f6, g6⟩
  have F6 := F5.trans f6
  have G6 := G5.trans g6
  obtain ⟨u6, hu6⟩ : ∃ z, z = u5.here ⟨#[108, 111, 111, 112]⟩ := ⟨_, rfl⟩
  rw [← hu6] at K6
  have m6 : u6.m ≤ u5.m + 1 := by rw [hu6]; exact Nat.le_of_eq (U.m_here _ _)
  have HU6 := hide hu6
  have c6 := K6.c0
  have X6 := F6.box HX.out
  have x6 : w6.cell? ⟨wI.heap.size + 1, 0, none⟩ = some (.pointer (some ⟨wI.heap.size, 0, none⟩)) := by rw [X6.cell]; rfl
  clear hu6 f6 g6 F5 G5 K5 c5 x5 X5
  go_wp2_with fail
  refine (u_jump w6 w.heap.size wI.heap.size (w.heap.size + 2) u6 2 ⟨#[103, 111]⟩ K6 (by omega) (by first | assumption | decide)).mono ?_; rintro e w7 ⟨rfl, K7, f7, g7⟩
  have F7 := F6.trans f7
  have G7 := G6.trans g7
  obtain ⟨u7, hu7⟩ : ∃ z, z = u6.jump 2 ⟨#[103, 111]⟩ := ⟨_, rfl⟩
  rw [← hu7] at K7
  have m7 : u7.m ≤ u6.m + 2 := by rw [hu7]; exact Nat.le_of_eq (U.m_jump _ _ _)
  have HU7 := hide hu7
  have c7 := K7.c0
  have X7 := F7.box HX.out
  have x7 : w7.cell? ⟨wI.heap.size + 1, 0, none⟩ = some (.pointer (some ⟨wI.heap.size, 0, none⟩)) := by rw [X7.cell]; rfl
  clear hu7 f7 g7 F6 G6 K6 c6 x6 X6
  go_wp2_with fail
  refine (u_head w7 w.heap.size wI.heap.size (w.heap.size + 2) u7 0 4 K7 (by omega)).mono ?_; rintro e w8 ⟨rfl, K8, f8, g8⟩
  have F8 := F7.trans f8
  have G8 := G7.trans g8
  obtain ⟨u8, hu8⟩ : ∃ z, z = u7.emit ⟨3, 0, 4, 0, ByteArray.empty⟩ := ⟨_, rfl⟩
  rw [← hu8] at K8
  have m8 : u8.m ≤ u7.m + 1 := by rw [hu8]; exact Nat.le_of_eq (U.m_emit _ _)
  have HU8 := hide hu8
  have c8 := K8.c0
  have X8 := F8.box HX.out
  have x8 : w8.cell? ⟨wI.heap.size + 1, 0, none⟩ = some (.pointer (some ⟨wI.heap.size, 0, none⟩)) := by rw [X8.cell]; rfl
  clear hu8 f8 g8 F7 G7 K7 c7 x7 X7
  go_wp2_with fail
  refine (u_leap w8 w.heap.size wI.heap.size (w.heap.size + 2) u8 ⟨#[101, 110, 100]⟩ K8 (by omega) (by first | assumption | decide)).mono ?_; rintro e w9 ⟨rfl, K9, f9, g9⟩
  have F9 := F8.trans f9
  have G9 := G8.trans g9
  obtain ⟨u9, hu9⟩ : ∃ z, z = u8.jump 14 ⟨#[101, 110, 100]⟩ := ⟨_, rfl⟩
  rw [← hu9] at K9
  have m9 : u9.m ≤ u8.m + 2 := by rw [hu9]; exact Nat.le_of_eq (U.m_jump _ _ _)
  have HU9 := hide hu9
  have c9 := K9.c0
  have X9 := F9.box HX.out
  have x9 : w9.cell? ⟨wI.heap.size + 1, 0, none⟩ = some (.pointer (some ⟨wI.heap.size, 0, none⟩)) := by rw [X9.cell]; rfl
  clear hu9 f9 g9 F8 G8 K8 c8 x8 X8
  go_wp2_with fail
  refine (u_here w9 w.heap.size wI.heap.size (w.heap.size + 2) u9 ⟨#[103, 111]⟩ K9 (by omega) (by first | assumption | decide)).mono ?_; rintro e w10 ⟨rfl, K10, f10, g10⟩
  have F10 := F9.trans f10
  have G10 := G9.trans g10
  obtain ⟨u10, hu10⟩ : ∃ z, z = u9.here ⟨#[103, 111]⟩ := ⟨_, rfl⟩
  rw [← hu10] at K10
  have m10 : u10.m ≤ u9.m + 1 := by rw [hu10]; exact Nat.le_of_eq (U.m_here _ _)
  have HU10 := hide hu10
  have c10 := K10.c0
  have X10 := F10.box HX.out
  have x10 : w10.cell? ⟨wI.heap.size + 1, 0, none⟩ = some (.pointer (some ⟨wI.heap.size, 0, none⟩)) := by rw [X10.cell]; rfl
  clear hu10 f10 g10 F9 G9 K9 c9 x9 X9
  go_wp2_with fail
  refine (u_head w10 w.heap.size wI.heap.size (w.heap.size + 2) u10 13 2 K10 (by omega)).mono ?_; rintro e w11 ⟨rfl, K11, f11, g11⟩
  have F11 := F10.trans f11
  have G11 := G10.trans g11
  obtain ⟨u11, hu11⟩ : ∃ z, z = u10.emit ⟨3, 13, 2, 0, ByteArray.empty⟩ := ⟨_, rfl⟩
  rw [← hu11] at K11
  have m11 : u11.m ≤ u10.m + 1 := by rw [hu11]; exact Nat.le_of_eq (U.m_emit _ _)
  have HU11 := hide hu11
  have c11 := K11.c0
  have X11 := F11.box HX.out
  have x11 : w11.cell? ⟨wI.heap.size + 1, 0, none⟩ = some (.pointer (some ⟨wI.heap.size, 0, none⟩)) := by rw [X11.cell]; rfl
  clear hu11 f11 g11 F10 G10 K10 c10 x10 X10
  go_wp2_with fail
  refine (u_head w11 w.heap.size wI.heap.size (w.heap.size + 2) u11 5 13 K11 (by omega)).mono ?_; rintro e w12 ⟨rfl, K12, f12, g12⟩
  have F12 := F11.trans f12
  have G12 := G11.trans g12
  obtain ⟨u12, hu12⟩ : ∃ z, z = u11.emit ⟨3, 5, 13, 0, ByteArray.empty⟩ := ⟨_, rfl⟩
  rw [← hu12] at K12
  have m12 : u12.m ≤ u11.m + 1 := by rw [hu12]; exact Nat.le_of_eq (U.m_emit _ _)
  have HU12 := hide hu12
  have c12 := K12.c0
  have X12 := F12.box HX.out
  have x12 : w12.cell? ⟨wI.heap.size + 1, 0, none⟩ = some (.pointer (some ⟨wI.heap.size, 0, none⟩)) := by rw [X12.cell]; rfl
  clear hu12 f12 g12 F11 G11 K11 c11 x11 X11
  go_wp2_with fail
  refine (u_tail w12 w.heap.size wI.heap.size (w.heap.size + 2) u12 6 13 K12 (by omega)).mono ?_; rintro e w13 ⟨rfl, K13, f13, g13⟩
  have F13 := F12.trans f13
  have G13 := G12.trans g13
  obtain ⟨u13, hu13⟩ : ∃ z, z = u12.emit ⟨4, 6, 13, 0, ByteArray.empty⟩ := ⟨_, rfl⟩
  rw [← hu13] at K13
  have m13 : u13.m ≤ u12.m + 1 := by rw [hu13]; exact Nat.le_of_eq (U.m_emit _ _)
  have HU13 := hide hu13
  have c13 := K13.c0
  have X13 := F13.box HX.out
  have x13 : w13.cell? ⟨wI.heap.size + 1, 0, none⟩ = some (.pointer (some ⟨wI.heap.size, 0, none⟩)) := by rw [X13.cell]; rfl
  clear hu13 f13 g13 F12 G12 K12 c12 x12 X12
  go_wp2_with fail
  refine (u_head w13 w.heap.size wI.heap.size (w.heap.size + 2) u13 7 6 K13 (by omega)).mono ?_; rintro e w14 ⟨rfl, K14, f14, g14⟩
  have F14 := F13.trans f14
  have G14 := G13.trans g14
  obtain ⟨u14, hu14⟩ : ∃ z, z = u13.emit ⟨3, 7, 6, 0, ByteArray.empty⟩ := ⟨_, rfl⟩
  rw [← hu14] at K14
  have m14 : u14.m ≤ u13.m + 1 := by rw [hu14]; exact Nat.le_of_eq (U.m_emit _ _)
  have HU14 := hide hu14
  have c14 := K14.c0
  have X14 := F14.box HX.out
  have x14 : w14.cell? ⟨wI.heap.size + 1, 0, none⟩ = some (.pointer (some ⟨wI.heap.size, 0, none⟩)) := by rw [X14.cell]; rfl
  clear hu14 f14 g14 F13 G13 K13 c13 x13 X13
  go_wp2_with fail
  refine (u_tail w14 w.heap.size wI.heap.size (w.heap.size + 2) u14 6 6 K14 (by omega)).mono ?_; rintro e w15 ⟨rfl, K15, f15, g15⟩
  have F15 := F14.trans f15
  have G15 := G14.trans g15
  obtain ⟨u15, hu15⟩ : ∃ z, z = u14.emit ⟨4, 6, 6, 0, ByteArray.empty⟩ := ⟨_, rfl⟩
  rw [← hu15] at K15
  have m15 : u15.m ≤ u14.m + 1 := by rw [hu15]; exact Nat.le_of_eq (U.m_emit _ _)
  have HU15 := hide hu15
  have c15 := K15.c0
  have X15 := F15.box HX.out
  have x15 : w15.cell? ⟨wI.heap.size + 1, 0, none⟩ = some (.pointer (some ⟨wI.heap.size, 0, none⟩)) := by rw [X15.cell]; rfl
  clear hu15 f15 g15 F14 G14 K14 c14 x14 X14
  go_wp2_with fail
  refine (u_kind1 w15 w.heap.size wI.heap.size (w.heap.size + 2) u15 ⟨#[115, 116, 111, 114, 101]⟩ (by decide) k84 1 84 (wI.heap.size + 1) m_k84 (by omega) (cf84 _) (fun W v hF hK hm => u_c84 W w.heap.size wI.heap.size (w.heap.size + 2) v (wI.heap.size + 1) (hF.box X15) hK (by omega)) K15 (by omega)).mono ?_; rintro e w16 ⟨rfl, K16, f16, g16⟩
  have F16 := F15.trans f16
  have G16 := G15.trans g16
  obtain ⟨u16, hu16⟩ : ∃ z, z = u15.kind k84 ⟨#[115, 116, 111, 114, 101]⟩ := ⟨_, rfl⟩
  rw [← hu16] at K16
  have m16 : u16.m ≤ u15.m + 8 := by rw [hu16]; exact U.m_kind m_k84 _ _
  have HU16 := hide hu16
  have c16 := K16.c0
  have X16 := F16.box HX.out
  have x16 : w16.cell? ⟨wI.heap.size + 1, 0, none⟩ = some (.pointer (some ⟨wI.heap.size, 0, none⟩)) := by rw [X16.cell]; rfl
  clear hu16 f16 g16 F15 G15 K15 c15 x15 X15
  have E16 := Blk.new w16 1 #[.func (.func 85) #[] #[.pointer (some ⟨wI.heap.size + 1, 0, none⟩)]]
  have X16b := X16.alloc (.cells #[.func (.func 85) #[] #[.pointer (some ⟨wI.heap.size + 1, 0, none⟩)]] 1)
  have x16b : (w16.alloc (.cells #[.func (.func 85) #[] #[.pointer (some ⟨wI.heap.size + 1, 0, none⟩)]] 1)).cell? ⟨wI.heap.size + 1, 0, none⟩ = some (.pointer (some ⟨wI.heap.size, 0, none⟩)) := by rw [X16b.cell]; rfl
  have e16b : (w16.alloc (.cells #[.func (.func 85) #[] #[.pointer (some ⟨wI.heap.size + 1, 0, none⟩)]] 1)).cell? ⟨w16.heap.size, 0, none⟩ = some (.func (.func 85) #[] #[.pointer (some ⟨wI.heap.size + 1, 0, none⟩)]) := by rw [E16.cell]; rfl
  go_wp2_with fail
  clear x16b e16b
  obtain ⟨gx, hgx⟩ : ∃ z, z = w16.heap.size := ⟨_, rfl⟩
  have HGX := hide hgx
  rw [← hgx] at E16 ⊢
  clear hgx
  refine (u_kind1 (w16.alloc (.cells #[.func (.func 85) #[] #[.pointer (some ⟨wI.heap.size + 1, 0, none⟩)]] 1)) w.heap.size wI.heap.size (w.heap.size + 2) u16 ⟨#[115, 116, 111, 114, 101]⟩ (by decide) k85 17 85 (wI.heap.size + 1) m_k85 (by omega) (cf85 _) (fun W v hF hK hm => u_c85 W w.heap.size wI.heap.size (w.heap.size + 2) v (wI.heap.size + 1) (hF.box X16b) hK (by omega)) (K16.alloc _) (by omega)).mono ?_; rintro e w17 ⟨rfl, K17, f17, g17⟩
  have F16b := F16.alloc (.cells #[.func (.func 85) #[] #[.pointer (some ⟨wI.heap.size + 1, 0, none⟩)]] 1)
  have G16b := G16.alloc (by have := K16.size; omega) (.cells #[.func (.func 85) #[] #[.pointer (some ⟨wI.heap.size + 1, 0, none⟩)]] 1)
  have F17 := F16b.trans f17
  have G17 := G16b.trans g17
  obtain ⟨u17, hu17⟩ : ∃ z, z = u16.kind k85 ⟨#[115, 116, 111, 114, 101]⟩ := ⟨_, rfl⟩
  rw [← hu17] at K17
  have m17 : u17.m ≤ u16.m + 24 := by rw [hu17]; exact U.m_kind m_k85 _ _
  have HU17 := hide hu17
  have c17 := K17.c0
  have X17 := F17.box HX.out
  have x17 : w17.cell? ⟨wI.heap.size + 1, 0, none⟩ = some (.pointer (some ⟨wI.heap.size, 0, none⟩)) := by rw [X17.cell]; rfl
  have E17 := f17 gx 1 _ E16 (by decide) (by decide) (by decide)
  have e17 : w17.cell? ⟨gx, 0, none⟩ = some (.func (.func 85) #[] #[.pointer (some ⟨wI.heap.size + 1, 0, none⟩)]) := by rw [E17.cell]; rfl
  clear hu17 f17 g17 F16 G16 K16 c16 x16 X16 E16 F16b G16b X16b
  go_wp2_with fail
  refine (u_kind1 w17 w.heap.size wI.heap.size (w.heap.size + 2) u17 ⟨#[115, 116, 111, 114, 101]⟩ (by decide) k87 35 87 (wI.heap.size + 1) m_k87 (by omega) (cf87 _) (fun W v hF hK hm => u_c87 W w.heap.size wI.heap.size (w.heap.size + 2) v (wI.heap.size + 1) (hF.box X17) hK (by omega)) K17 (by omega)).mono ?_; rintro e w18 ⟨rfl, K18, f18, g18⟩
  have F18 := F17.trans f18
  have G18 := G17.trans g18
  obtain ⟨u18, hu18⟩ : ∃ z, z = u17.kind k87 ⟨#[115, 116, 111, 114, 101]⟩ := ⟨_, rfl⟩
  rw [← hu18] at K18
  have m18 : u18.m ≤ u17.m + 42 := by rw [hu18]; exact U.m_kind m_k87 _ _
  have HU18 := hide hu18
  have c18 := K18.c0
  have X18 := F18.box HX.out
  have x18 : w18.cell? ⟨wI.heap.size + 1, 0, none⟩ = some (.pointer (some ⟨wI.heap.size, 0, none⟩)) := by rw [X18.cell]; rfl
  have E18 := f18 gx 1 _ E17 (by decide) (by decide) (by decide)
  have e18 : w18.cell? ⟨gx, 0, none⟩ = some (.func (.func 85) #[] #[.pointer (some ⟨wI.heap.size + 1, 0, none⟩)]) := by rw [E18.cell]; rfl
  clear hu18 f18 g18 F17 G17 K17 c17 x17 X17 e17 E17
  go_wp2_with fail
  refine (u_kind2 w18 w.heap.size wI.heap.size (w.heap.size + 2) u18 ⟨#[115, 116, 111, 114, 101]⟩ (by decide) (wI.heap.size + 1) k88 18 88 gx m_k88 (by omega) (cf88 _ _) (fun W v hF hK hm => u_c88 W w.heap.size wI.heap.size (w.heap.size + 2) v (wI.heap.size + 1) gx (hF.box X18) (hF gx 1 _ E18 (by decide) (by decide) (by decide)) hK (by omega)) K18 (by omega)).mono ?_; rintro e w19 ⟨rfl, K19, f19, g19⟩
  have F19 := F18.trans f19
  have G19 := G18.trans g19
  obtain ⟨u19, hu19⟩ : ∃ z, z = u18.kind k88 ⟨#[115, 116, 111, 114, 101]⟩ := ⟨_, rfl⟩
  rw [← hu19] at K19
  have m19 : u19.m ≤ u18.m + 25 := by rw [hu19]; exact U.m_kind m_k88 _ _
  have HU19 := hide hu19
  have c19 := K19.c0
  have X19 := F19.box HX.out
  have x19 : w19.cell? ⟨wI.heap.size + 1, 0, none⟩ = some (.pointer (some ⟨wI.heap.size, 0, none⟩)) := by rw [X19.cell]; rfl
  have E19 := f19 gx 1 _ E18 (by decide) (by decide) (by decide)
  have e19 : w19.cell? ⟨gx, 0, none⟩ = some (.func (.func 85) #[] #[.pointer (some ⟨wI.heap.size + 1, 0, none⟩)]) := by rw [E19.cell]; rfl
  clear hu19 f19 g19 F18 G18 K18 c18 x18 X18 e18 E18
  go_wp2_with fail
  refine (u_kind2 w19 w.heap.size wI.heap.size (w.heap.size + 2) u19 ⟨#[115, 116, 111, 114, 101]⟩ (by decide) (wI.heap.size + 1) k89 18 89 gx m_k89 (by omega) (cf89 _ _) (fun W v hF hK hm => u_c89 W w.heap.size wI.heap.size (w.heap.size + 2) v (wI.heap.size + 1) gx (hF.box X19) (hF gx 1 _ E19 (by decide) (by decide) (by decide)) hK (by omega)) K19 (by omega)).mono ?_; rintro e w20 ⟨rfl, K20, f20, g20⟩
  have F20 := F19.trans f20
  have G20 := G19.trans g20
  obtain ⟨u20, hu20⟩ : ∃ z, z = u19.kind k89 ⟨#[115, 116, 111, 114, 101]⟩ := ⟨_, rfl⟩
  rw [← hu20] at K20
  have m20 : u20.m ≤ u19.m + 25 := by rw [hu20]; exact U.m_kind m_k89 _ _
  have HU20 := hide hu20
  have c20 := K20.c0
  have X20 := F20.box HX.out
  have x20 : w20.cell? ⟨wI.heap.size + 1, 0, none⟩ = some (.pointer (some ⟨wI.heap.size, 0, none⟩)) := by rw [X20.cell]; rfl
  have E20 := f20 gx 1 _ E19 (by decide) (by decide) (by decide)
  have e20 : w20.cell? ⟨gx, 0, none⟩ = some (.func (.func 85) #[] #[.pointer (some ⟨wI.heap.size + 1, 0, none⟩)]) := by rw [E20.cell]; rfl
  clear hu20 f20 g20 F19 G19 K19 c19 x19 X19 e19 E19
  go_wp2_with fail
  refine (u_move w20 w.heap.size wI.heap.size (w.heap.size + 2) u20 10 7 K20 (by omega)).mono ?_; rintro e w21 ⟨rfl, K21, f21, g21⟩
  have F21 := F20.trans f21
  have G21 := G20.trans g21
  obtain ⟨u21, hu21⟩ : ∃ z, z = u20.emit ⟨1, 10, 7, 0, ByteArray.empty⟩ := ⟨_, rfl⟩
  rw [← hu21] at K21
  have m21 : u21.m ≤ u20.m + 1 := by rw [hu21]; exact Nat.le_of_eq (U.m_emit _ _)
  have HU21 := hide hu21
  have c21 := K21.c0
  have X21 := F21.box HX.out
  have x21 : w21.cell? ⟨wI.heap.size + 1, 0, none⟩ = some (.pointer (some ⟨wI.heap.size, 0, none⟩)) := by rw [X21.cell]; rfl
  have E21 := f21 gx 1 _ E20 (by decide) (by decide) (by decide)
  have e21 : w21.cell? ⟨gx, 0, none⟩ = some (.func (.func 85) #[] #[.pointer (some ⟨wI.heap.size + 1, 0, none⟩)]) := by rw [E21.cell]; rfl
  clear hu21 f21 g21 F20 G20 K20 c20 x20 X20 e20 E20
  go_wp2_with fail
  refine (u_fetch_any w21 w.heap.size wI.heap.size (w.heap.size + 2) u21 8 K21 (by omega)).mono ?_; rintro e w22 ⟨rfl, K22, f22, g22⟩
  have F22 := F21.trans f22
  have G22 := G21.trans g22
  obtain ⟨u22, hu22⟩ : ∃ z, z = u21.fetch 8 := ⟨_, rfl⟩
  rw [← hu22] at K22
  have m22 : u22.m ≤ u21.m + 16 := by rw [hu22]; exact U.m_fetch _ _
  have HU22 := hide hu22
  have c22 := K22.c0
  have X22 := F22.box HX.out
  have x22 : w22.cell? ⟨wI.heap.size + 1, 0, none⟩ = some (.pointer (some ⟨wI.heap.size, 0, none⟩)) := by rw [X22.cell]; rfl
  have E22 := f22 gx 1 _ E21 (by decide) (by decide) (by decide)
  have e22 : w22.cell? ⟨gx, 0, none⟩ = some (.func (.func 85) #[] #[.pointer (some ⟨wI.heap.size + 1, 0, none⟩)]) := by rw [E22.cell]; rfl
  clear hu22 f22 g22 F21 G21 K21 c21 x21 X21 e21 E21
  go_wp2_with fail
  refine (u_jump w22 w.heap.size wI.heap.size (w.heap.size + 2) u22 8 ⟨#[116, 97, 107, 101, 110]⟩ K22 (by omega) (by first | assumption | decide)).mono ?_; rintro e w23 ⟨rfl, K23, f23, g23⟩
  have F23 := F22.trans f23
  have G23 := G22.trans g23
  obtain ⟨u23, hu23⟩ : ∃ z, z = u22.jump 8 ⟨#[116, 97, 107, 101, 110]⟩ := ⟨_, rfl⟩
  rw [← hu23] at K23
  have m23 : u23.m ≤ u22.m + 2 := by rw [hu23]; exact Nat.le_of_eq (U.m_jump _ _ _)
  have HU23 := hide hu23
  have c23 := K23.c0
  have X23 := F23.box HX.out
  have x23 : w23.cell? ⟨wI.heap.size + 1, 0, none⟩ = some (.pointer (some ⟨wI.heap.size, 0, none⟩)) := by rw [X23.cell]; rfl
  have E23 := f23 gx 1 _ E22 (by decide) (by decide) (by decide)
  have e23 : w23.cell? ⟨gx, 0, none⟩ = some (.func (.func 85) #[] #[.pointer (some ⟨wI.heap.size + 1, 0, none⟩)]) := by rw [E23.cell]; rfl
  clear hu23 f23 g23 F22 G22 K22 c22 x22 X22 e22 E22
  go_wp2_with fail
  refine (u_here w23 w.heap.size wI.heap.size (w.heap.size + 2) u23 ⟨#[110, 101, 120, 116]⟩ K23 (by omega) (by first | assumption | decide)).mono ?_; rintro e w24 ⟨rfl, K24, f24, g24⟩
  have F24 := F23.trans f24
  have G24 := G23.trans g24
  obtain ⟨u24, hu24⟩ : ∃ z, z = u23.here ⟨#[110, 101, 120, 116]⟩ := ⟨_, rfl⟩
  rw [← hu24] at K24
  have m24 : u24.m ≤ u23.m + 1 := by rw [hu24]; exact Nat.le_of_eq (U.m_here _ _)
  have HU24 := hide hu24
  have c24 := K24.c0
  have X24 := F24.box HX.out
  have x24 : w24.cell? ⟨wI.heap.size + 1, 0, none⟩ = some (.pointer (some ⟨wI.heap.size, 0, none⟩)) := by rw [X24.cell]; rfl
  have E24 := f24 gx 1 _ E23 (by decide) (by decide) (by decide)
  have e24 : w24.cell? ⟨gx, 0, none⟩ = some (.func (.func 85) #[] #[.pointer (some ⟨wI.heap.size + 1, 0, none⟩)]) := by rw [E24.cell]; rfl
  clear hu24 f24 g24 F23 G23 K23 c23 x23 X23 e23 E23
  go_wp2_with fail
  refine (u_next w24 w.heap.size wI.heap.size (w.heap.size + 2) u24 K24 (by omega)).mono ?_; rintro e w25 ⟨rfl, K25, f25, g25⟩
  have F25 := F24.trans f25
  have G25 := G24.trans g25
  obtain ⟨u25, hu25⟩ : ∃ z, z = u24.next := ⟨_, rfl⟩
  rw [← hu25] at K25
  have m25 : u25.m ≤ u24.m + 3 := by rw [hu25]; exact m_next _
  have HU25 := hide hu25
  have c25 := K25.c0
  have X25 := F25.box HX.out
  have x25 : w25.cell? ⟨wI.heap.size + 1, 0, none⟩ = some (.pointer (some ⟨wI.heap.size, 0, none⟩)) := by rw [X25.cell]; rfl
  have E25 := f25 gx 1 _ E24 (by decide) (by decide) (by decide)
  have e25 : w25.cell? ⟨gx, 0, none⟩ = some (.func (.func 85) #[] #[.pointer (some ⟨wI.heap.size + 1, 0, none⟩)]) := by rw [E25.cell]; rfl
  clear hu25 f25 g25 F24 G24 K24 c24 x24 X24 e24 E24
  go_wp2_with fail
  refine (u_leap w25 w.heap.size wI.heap.size (w.heap.size + 2) u25 ⟨#[108, 111, 111, 112]⟩ K25 (by omega) (by first | assumption | decide)).mono ?_; rintro e w26 ⟨rfl, K26, f26, g26⟩
  have F26 := F25.trans f26
  have G26 := G25.trans g26
  obtain ⟨u26, hu26⟩ : ∃ z, z = u25.jump 14 ⟨#[108, 111, 111, 112]⟩ := ⟨_, rfl⟩
  rw [← hu26] at K26
  have m26 : u26.m ≤ u25.m + 2 := by rw [hu26]; exact Nat.le_of_eq (U.m_jump _ _ _)
  have HU26 := hide hu26
  have c26 := K26.c0
  have X26 := F26.box HX.out
  have x26 : w26.cell? ⟨wI.heap.size + 1, 0, none⟩ = some (.pointer (some ⟨wI.heap.size, 0, none⟩)) := by rw [X26.cell]; rfl
  have E26 := f26 gx 1 _ E25 (by decide) (by decide) (by decide)
  have e26 : w26.cell? ⟨gx, 0, none⟩ = some (.func (.func 85) #[] #[.pointer (some ⟨wI.heap.size + 1, 0, none⟩)]) := by rw [E26.cell]; rfl
  clear hu26 f26 g26 F25 G25 K25 c25 x25 X25 e25 E25
  go_wp2_with fail
  refine (u_here w26 w.heap.size wI.heap.size (w.heap.size + 2) u26 ⟨#[115, 116, 111, 114, 101]⟩ K26 (by omega) (by first | assumption | decide)).mono ?_; rintro e w27 ⟨rfl, K27, f27, g27⟩
  have F27 := F26.trans f27
  have G27 := G26.trans g27
  obtain ⟨u27, hu27⟩ : ∃ z, z = u26.here ⟨#[115, 116, 111, 114, 101]⟩ := ⟨_, rfl⟩
  rw [← hu27] at K27
  have m27 : u27.m ≤ u26.m + 1 := by rw [hu27]; exact Nat.le_of_eq (U.m_here _ _)
  have HU27 := hide hu27
  have c27 := K27.c0
  have X27 := F27.box HX.out
  have x27 : w27.cell? ⟨wI.heap.size + 1, 0, none⟩ = some (.pointer (some ⟨wI.heap.size, 0, none⟩)) := by rw [X27.cell]; rfl
  have E27 := f27 gx 1 _ E26 (by decide) (by decide) (by decide)
  have e27 : w27.cell? ⟨gx, 0, none⟩ = some (.func (.func 85) #[] #[.pointer (some ⟨wI.heap.size + 1, 0, none⟩)]) := by rw [E27.cell]; rfl
  clear hu27 f27 g27 F26 G26 K26 c26 x26 X26 e26 E26
  go_wp2_with fail
  refine (u_store_any w27 w.heap.size wI.heap.size (w.heap.size + 2) u27 K27 (by omega)).mono ?_; rintro e w28 ⟨rfl, K28, f28, g28⟩
  have F28 := F27.trans f28
  have G28 := G27.trans g28
  obtain ⟨u28, hu28⟩ : ∃ z, z = u27.store := ⟨_, rfl⟩
  rw [← hu28] at K28
  have m28 : u28.m ≤ u27.m + 60 := by rw [hu28]; exact U.m_store _
  have HU28 := hide hu28
  have c28 := K28.c0
  have X28 := F28.box HX.out
  have x28 : w28.cell? ⟨wI.heap.size + 1, 0, none⟩ = some (.pointer (some ⟨wI.heap.size, 0, none⟩)) := by rw [X28.cell]; rfl
  have E28 := f28 gx 1 _ E27 (by decide) (by decide) (by decide)
  have e28 : w28.cell? ⟨gx, 0, none⟩ = some (.func (.func 85) #[] #[.pointer (some ⟨wI.heap.size + 1, 0, none⟩)]) := by rw [E28.cell]; rfl
  clear hu28 f28 g28 F27 G27 K27 c27 x27 X27 e27 E27
  go_wp2_with fail
  refine (u_leap w28 w.heap.size wI.heap.size (w.heap.size + 2) u28 ⟨#[110, 101, 120, 116]⟩ K28 (by omega) (by first | assumption | decide)).mono ?_; rintro e w29 ⟨rfl, K29, f29, g29⟩
  have F29 := F28.trans f29
  have G29 := G28.trans g29
  obtain ⟨u29, hu29⟩ : ∃ z, z = u28.jump 14 ⟨#[110, 101, 120, 116]⟩ := ⟨_, rfl⟩
  rw [← hu29] at K29
  have m29 : u29.m ≤ u28.m + 2 := by rw [hu29]; exact Nat.le_of_eq (U.m_jump _ _ _)
  have HU29 := hide hu29
  have c29 := K29.c0
  have X29 := F29.box HX.out
  have x29 : w29.cell? ⟨wI.heap.size + 1, 0, none⟩ = some (.pointer (some ⟨wI.heap.size, 0, none⟩)) := by rw [X29.cell]; rfl
  have E29 := f29 gx 1 _ E28 (by decide) (by decide) (by decide)
  have e29 : w29.cell? ⟨gx, 0, none⟩ = some (.func (.func 85) #[] #[.pointer (some ⟨wI.heap.size + 1, 0, none⟩)]) := by rw [E29.cell]; rfl
  clear hu29 f29 g29 F28 G28 K28 c28 x28 X28 e28 E28
  go_wp2_with fail
  refine (u_here w29 w.heap.size wI.heap.size (w.heap.size + 2) u29 ⟨#[116, 97, 107, 101, 110]⟩ K29 (by omega) (by first | assumption | decide)).mono ?_; rintro e w30 ⟨rfl, K30, f30, g30⟩
  have F30 := F29.trans f30
  have G30 := G29.trans g30
  obtain ⟨u30, hu30⟩ : ∃ z, z = u29.here ⟨#[116, 97, 107, 101, 110]⟩ := ⟨_, rfl⟩
  rw [← hu30] at K30
  have m30 : u30.m ≤ u29.m + 1 := by rw [hu30]; exact Nat.le_of_eq (U.m_here _ _)
  have HU30 := hide hu30
  have c30 := K30.c0
  have X30 := F30.box HX.out
  have x30 : w30.cell? ⟨wI.heap.size + 1, 0, none⟩ = some (.pointer (some ⟨wI.heap.size, 0, none⟩)) := by rw [X30.cell]; rfl
  have E30 := f30 gx 1 _ E29 (by decide) (by decide) (by decide)
  have e30 : w30.cell? ⟨gx, 0, none⟩ = some (.func (.func 85) #[] #[.pointer (some ⟨wI.heap.size + 1, 0, none⟩)]) := by rw [E30.cell]; rfl
  clear hu30 f30 g30 F29 G29 K29 c29 x29 X29 e29 E29
  go_wp2_with fail
  refine (u_head w30 w.heap.size wI.heap.size (w.heap.size + 2) u30 13 6 K30 (by omega)).mono ?_; rintro e w31 ⟨rfl, K31, f31, g31⟩
  have F31 := F30.trans f31
  have G31 := G30.trans g31
  obtain ⟨u31, hu31⟩ : ∃ z, z = u30.emit ⟨3, 13, 6, 0, ByteArray.empty⟩ := ⟨_, rfl⟩
  rw [← hu31] at K31
  have m31 : u31.m ≤ u30.m + 1 := by rw [hu31]; exact Nat.le_of_eq (U.m_emit _ _)
  have HU31 := hide hu31
  have c31 := K31.c0
  have X31 := F31.box HX.out
  have x31 : w31.cell? ⟨wI.heap.size + 1, 0, none⟩ = some (.pointer (some ⟨wI.heap.size, 0, none⟩)) := by rw [X31.cell]; rfl
  have E31 := f31 gx 1 _ E30 (by decide) (by decide) (by decide)
  have e31 : w31.cell? ⟨gx, 0, none⟩ = some (.func (.func 85) #[] #[.pointer (some ⟨wI.heap.size + 1, 0, none⟩)]) := by rw [E31.cell]; rfl
  clear hu31 f31 g31 F30 G30 K30 c30 x30 X30 e30 E30
  go_wp2_with fail
  refine (u_tail w31 w.heap.size wI.heap.size (w.heap.size + 2) u31 10 6 K31 (by omega)).mono ?_; rintro e w32 ⟨rfl, K32, f32, g32⟩
  have F32 := F31.trans f32
  have G32 := G31.trans g32
  obtain ⟨u32, hu32⟩ : ∃ z, z = u31.emit ⟨4, 10, 6, 0, ByteArray.empty⟩ := ⟨_, rfl⟩
  rw [← hu32] at K32
  have m32 : u32.m ≤ u31.m + 1 := by rw [hu32]; exact Nat.le_of_eq (U.m_emit _ _)
  have HU32 := hide hu32
  have c32 := K32.c0
  have X32 := F32.box HX.out
  have x32 : w32.cell? ⟨wI.heap.size + 1, 0, none⟩ = some (.pointer (some ⟨wI.heap.size, 0, none⟩)) := by rw [X32.cell]; rfl
  have E32 := f32 gx 1 _ E31 (by decide) (by decide) (by decide)
  have e32 : w32.cell? ⟨gx, 0, none⟩ = some (.func (.func 85) #[] #[.pointer (some ⟨wI.heap.size + 1, 0, none⟩)]) := by rw [E32.cell]; rfl
  clear hu32 f32 g32 F31 G31 K31 c31 x31 X31 e31 E31
  go_wp2_with fail
  refine (u_jump w32 w.heap.size wI.heap.size (w.heap.size + 2) u32 13 ⟨#[98, 97, 99, 107]⟩ K32 (by omega) (by first | assumption | decide)).mono ?_; rintro e w33 ⟨rfl, K33, f33, g33⟩
  have F33 := F32.trans f33
  have G33 := G32.trans g33
  obtain ⟨u33, hu33⟩ : ∃ z, z = u32.jump 13 ⟨#[98, 97, 99, 107]⟩ := ⟨_, rfl⟩
  rw [← hu33] at K33
  have m33 : u33.m ≤ u32.m + 2 := by rw [hu33]; exact Nat.le_of_eq (U.m_jump _ _ _)
  have HU33 := hide hu33
  have c33 := K33.c0
  have X33 := F33.box HX.out
  have x33 : w33.cell? ⟨wI.heap.size + 1, 0, none⟩ = some (.pointer (some ⟨wI.heap.size, 0, none⟩)) := by rw [X33.cell]; rfl
  have E33 := f33 gx 1 _ E32 (by decide) (by decide) (by decide)
  have e33 : w33.cell? ⟨gx, 0, none⟩ = some (.func (.func 85) #[] #[.pointer (some ⟨wI.heap.size + 1, 0, none⟩)]) := by rw [E33.cell]; rfl
  clear hu33 f33 g33 F32 G32 K32 c32 x32 X32 e32 E32
  go_wp2_with fail
  refine (u_count2 w33 w.heap.size wI.heap.size (w.heap.size + 2) u33 U.next 3 90 wI.heap.size m_next (by omega) (cf90 _) (fun W v hF hK hm => u_next W w.heap.size wI.heap.size (w.heap.size + 2) v hK (by omega)) K33 (by omega)).mono ?_; rintro e w34 ⟨rfl, K34, f34, g34⟩
  have F34 := F33.trans f34
  have G34 := G33.trans g34
  obtain ⟨u34, hu34⟩ : ∃ z, z = u33.count U.next := ⟨_, rfl⟩
  rw [← hu34] at K34
  have m34 : u34.m ≤ u33.m + 16 := by rw [hu34]; exact U.m_count m_next _
  have HU34 := hide hu34
  have c34 := K34.c0
  have X34 := F34.box HX.out
  have x34 : w34.cell? ⟨wI.heap.size + 1, 0, none⟩ = some (.pointer (some ⟨wI.heap.size, 0, none⟩)) := by rw [X34.cell]; rfl
  have E34 := f34 gx 1 _ E33 (by decide) (by decide) (by decide)
  have e34 : w34.cell? ⟨gx, 0, none⟩ = some (.func (.func 85) #[] #[.pointer (some ⟨wI.heap.size + 1, 0, none⟩)]) := by rw [E34.cell]; rfl
  clear hu34 f34 g34 F33 G33 K33 c33 x33 X33 e33 E33
  go_wp2_with fail
  refine (u_leap w34 w.heap.size wI.heap.size (w.heap.size + 2) u34 ⟨#[108, 111, 111, 112]⟩ K34 (by omega) (by first | assumption | decide)).mono ?_; rintro e w35 ⟨rfl, K35, f35, g35⟩
  have F35 := F34.trans f35
  have G35 := G34.trans g35
  obtain ⟨u35, hu35⟩ : ∃ z, z = u34.jump 14 ⟨#[108, 111, 111, 112]⟩ := ⟨_, rfl⟩
  rw [← hu35] at K35
  have m35 : u35.m ≤ u34.m + 2 := by rw [hu35]; exact Nat.le_of_eq (U.m_jump _ _ _)
  have HU35 := hide hu35
  have c35 := K35.c0
  have X35 := F35.box HX.out
  have x35 : w35.cell? ⟨wI.heap.size + 1, 0, none⟩ = some (.pointer (some ⟨wI.heap.size, 0, none⟩)) := by rw [X35.cell]; rfl
  have E35 := f35 gx 1 _ E34 (by decide) (by decide) (by decide)
  have e35 : w35.cell? ⟨gx, 0, none⟩ = some (.func (.func 85) #[] #[.pointer (some ⟨wI.heap.size + 1, 0, none⟩)]) := by rw [E35.cell]; rfl
  clear hu35 f35 g35 F34 G34 K34 c34 x34 X34 e34 E34
  go_wp2_with fail
  refine (u_here w35 w.heap.size wI.heap.size (w.heap.size + 2) u35 ⟨#[98, 97, 99, 107]⟩ K35 (by omega) (by first | assumption | decide)).mono ?_; rintro e w36 ⟨rfl, K36, f36, g36⟩
  have F36 := F35.trans f36
  have G36 := G35.trans g36
  obtain ⟨u36, hu36⟩ : ∃ z, z = u35.here ⟨#[98, 97, 99, 107]⟩ := ⟨_, rfl⟩
  rw [← hu36] at K36
  have m36 : u36.m ≤ u35.m + 1 := by rw [hu36]; exact Nat.le_of_eq (U.m_here _ _)
  have HU36 := hide hu36
  have c36 := K36.c0
  have X36 := F36.box HX.out
  have x36 : w36.cell? ⟨wI.heap.size + 1, 0, none⟩ = some (.pointer (some ⟨wI.heap.size, 0, none⟩)) := by rw [X36.cell]; rfl
  have E36 := f36 gx 1 _ E35 (by decide) (by decide) (by decide)
  have e36 : w36.cell? ⟨gx, 0, none⟩ = some (.func (.func 85) #[] #[.pointer (some ⟨wI.heap.size + 1, 0, none⟩)]) := by rw [E36.cell]; rfl
  clear hu36 f36 g36 F35 G35 K35 c35 x35 X35 e35 E35
  go_wp2_with fail
  refine (u_count1 w36 w.heap.size wI.heap.size (w.heap.size + 2) u36 k93 1 93 (wI.heap.size + 1) m_k93 (by omega) (cf93 _) (fun W v hF hK hm => u_c93 W w.heap.size wI.heap.size (w.heap.size + 2) v (wI.heap.size + 1) (hF.box X36) hK (by omega)) K36 (by omega)).mono ?_; rintro e w37 ⟨rfl, K37, f37, g37⟩
  have F37 := F36.trans f37
  have G37 := G36.trans g37
  obtain ⟨u37, hu37⟩ : ∃ z, z = u36.count k93 := ⟨_, rfl⟩
  rw [← hu37] at K37
  have m37 : u37.m ≤ u36.m + 14 := by rw [hu37]; exact U.m_count m_k93 _
  have HU37 := hide hu37
  have c37 := K37.c0
  have X37 := F37.box HX.out
  have x37 : w37.cell? ⟨wI.heap.size + 1, 0, none⟩ = some (.pointer (some ⟨wI.heap.size, 0, none⟩)) := by rw [X37.cell]; rfl
  have E37 := f37 gx 1 _ E36 (by decide) (by decide) (by decide)
  have e37 : w37.cell? ⟨gx, 0, none⟩ = some (.func (.func 85) #[] #[.pointer (some ⟨wI.heap.size + 1, 0, none⟩)]) := by rw [E37.cell]; rfl
  clear hu37 f37 g37 F36 G36 K36 c36 x36 X36 e36 E36
  go_wp2_with fail
  refine (u_move w37 w.heap.size wI.heap.size (w.heap.size + 2) u37 2 1 K37 (by omega)).mono ?_; rintro e w38 ⟨rfl, K38, f38, g38⟩
  have F38 := F37.trans f38
  have G38 := G37.trans g38
  obtain ⟨u38, hu38⟩ : ∃ z, z = u37.emit ⟨1, 2, 1, 0, ByteArray.empty⟩ := ⟨_, rfl⟩
  rw [← hu38] at K38
  have m38 : u38.m ≤ u37.m + 1 := by rw [hu38]; exact Nat.le_of_eq (U.m_emit _ _)
  have HU38 := hide hu38
  have c38 := K38.c0
  have X38 := F38.box HX.out
  have x38 : w38.cell? ⟨wI.heap.size + 1, 0, none⟩ = some (.pointer (some ⟨wI.heap.size, 0, none⟩)) := by rw [X38.cell]; rfl
  have E38 := f38 gx 1 _ E37 (by decide) (by decide) (by decide)
  have e38 : w38.cell? ⟨gx, 0, none⟩ = some (.func (.func 85) #[] #[.pointer (some ⟨wI.heap.size + 1, 0, none⟩)]) := by rw [E38.cell]; rfl
  clear hu38 f38 g38 F37 G37 K37 c37 x37 X37 e37 E37
  go_wp2_with fail
  refine (u_move w38 w.heap.size wI.heap.size (w.heap.size + 2) u38 10 3 K38 (by omega)).mono ?_; rintro e w39 ⟨rfl, K39, f39, g39⟩
  have F39 := F38.trans f39
  have G39 := G38.trans g39
  obtain ⟨u39, hu39⟩ : ∃ z, z = u38.emit ⟨1, 10, 3, 0, ByteArray.empty⟩ := ⟨_, rfl⟩
  rw [← hu39] at K39
  have m39 : u39.m ≤ u38.m + 1 := by rw [hu39]; exact Nat.le_of_eq (U.m_emit _ _)
  have HU39 := hide hu39
  have c39 := K39.c0
  have X39 := F39.box HX.out
  have x39 : w39.cell? ⟨wI.heap.size + 1, 0, none⟩ = some (.pointer (some ⟨wI.heap.size, 0, none⟩)) := by rw [X39.cell]; rfl
  have E39 := f39 gx 1 _ E38 (by decide) (by decide) (by decide)
  have e39 : w39.cell? ⟨gx, 0, none⟩ = some (.func (.func 85) #[] #[.pointer (some ⟨wI.heap.size + 1, 0, none⟩)]) := by rw [E39.cell]; rfl
  clear hu39 f39 g39 F38 G38 K38 c38 x38 X38 e38 E38
  go_wp2_with fail
  refine (u_count1 w39 w.heap.size wI.heap.size (w.heap.size + 2) u39 k94 1 94 (wI.heap.size + 1) m_k94 (by omega) (cf94 _) (fun W v hF hK hm => u_c94 W w.heap.size wI.heap.size (w.heap.size + 2) v (wI.heap.size + 1) (hF.box X39) hK (by omega)) K39 (by omega)).mono ?_; rintro e w40 ⟨rfl, K40, f40, g40⟩
  have F40 := F39.trans f40
  have G40 := G39.trans g40
  obtain ⟨u40, hu40⟩ : ∃ z, z = u39.count k94 := ⟨_, rfl⟩
  rw [← hu40] at K40
  have m40 : u40.m ≤ u39.m + 14 := by rw [hu40]; exact U.m_count m_k94 _
  have HU40 := hide hu40
  have c40 := K40.c0
  have X40 := F40.box HX.out
  have x40 : w40.cell? ⟨wI.heap.size + 1, 0, none⟩ = some (.pointer (some ⟨wI.heap.size, 0, none⟩)) := by rw [X40.cell]; rfl
  have E40 := f40 gx 1 _ E39 (by decide) (by decide) (by decide)
  have e40 : w40.cell? ⟨gx, 0, none⟩ = some (.func (.func 85) #[] #[.pointer (some ⟨wI.heap.size + 1, 0, none⟩)]) := by rw [E40.cell]; rfl
  clear hu40 f40 g40 F39 G39 K39 c39 x39 X39 e39 E39
  go_wp2_with fail
  refine (u_leap w40 w.heap.size wI.heap.size (w.heap.size + 2) u40 ⟨#[108, 111, 111, 112]⟩ K40 (by omega) (by first | assumption | decide)).mono ?_; rintro e w41 ⟨rfl, K41, f41, g41⟩
  have F41 := F40.trans f41
  have G41 := G40.trans g41
  obtain ⟨u41, hu41⟩ : ∃ z, z = u40.jump 14 ⟨#[108, 111, 111, 112]⟩ := ⟨_, rfl⟩
  rw [← hu41] at K41
  have m41 : u41.m ≤ u40.m + 2 := by rw [hu41]; exact Nat.le_of_eq (U.m_jump _ _ _)
  have HU41 := hide hu41
  have c41 := K41.c0
  have X41 := F41.box HX.out
  have x41 : w41.cell? ⟨wI.heap.size + 1, 0, none⟩ = some (.pointer (some ⟨wI.heap.size, 0, none⟩)) := by rw [X41.cell]; rfl
  have E41 := f41 gx 1 _ E40 (by decide) (by decide) (by decide)
  have e41 : w41.cell? ⟨gx, 0, none⟩ = some (.func (.func 85) #[] #[.pointer (some ⟨wI.heap.size + 1, 0, none⟩)]) := by rw [E41.cell]; rfl
  clear hu41 f41 g41 F40 G40 K40 c40 x40 X40 e40 E40
  go_wp2_with fail
  refine (u_here w41 w.heap.size wI.heap.size (w.heap.size + 2) u41 ⟨#[101, 110, 100]⟩ K41 (by omega) (by first | assumption | decide)).mono ?_; rintro e w42 ⟨rfl, K42, f42, g42⟩
  have F42 := F41.trans f42
  have G42 := G41.trans g42
  obtain ⟨u42, hu42⟩ : ∃ z, z = u41.here ⟨#[101, 110, 100]⟩ := ⟨_, rfl⟩
  rw [← hu42] at K42
  have m42 : u42.m ≤ u41.m + 1 := by rw [hu42]; exact Nat.le_of_eq (U.m_here _ _)
  have HU42 := hide hu42
  have c42 := K42.c0
  have X42 := F42.box HX.out
  have x42 : w42.cell? ⟨wI.heap.size + 1, 0, none⟩ = some (.pointer (some ⟨wI.heap.size, 0, none⟩)) := by rw [X42.cell]; rfl
  have E42 := f42 gx 1 _ E41 (by decide) (by decide) (by decide)
  have e42 : w42.cell? ⟨gx, 0, none⟩ = some (.func (.func 85) #[] #[.pointer (some ⟨wI.heap.size + 1, 0, none⟩)]) := by rw [E42.cell]; rfl
  clear hu42 f42 g42 F41 G41 K41 c41 x41 X41 e41 E41
  have ee : u42 = uniU := by
    rw [HU42.out, HU41.out, HU40.out, HU39.out, HU38.out, HU37.out, HU36.out, HU35.out, HU34.out, HU33.out, HU32.out, HU31.out, HU30.out, HU29.out, HU28.out, HU27.out, HU26.out, HU25.out, HU24.out, HU23.out, HU22.out, HU21.out, HU20.out, HU19.out, HU18.out, HU17.out, HU16.out, HU15.out, HU14.out, HU13.out, HU12.out, HU11.out, HU10.out, HU9.out, HU8.out, HU7.out, HU6.out, HU5.out, HU4.out, HU3.out, HU2.out, HU1.out, HU0.out]
    rfl
  rw [ee] at K42
  go_wp2_with fail
  refine (done_any w42 w.heap.size (w.heap.size + 2) uniU.a K42.2.1 HOK.out).mono ?_; rintro e wZ ⟨A, cap, rfl, oZ, gZ⟩
  rw [HNN.out] at oZ
  rw [HNN.out]
  go_wp2
  go_ret
  exact ⟨A, cap, rfl, oZ, G42.trans gZ⟩
end Go.Proofs.Ytgbieakahgkkpaa
