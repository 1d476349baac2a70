/- The writer of the universal program: its methods one by one. -/
import Derived.Test.YtgbieakahgkkpaaAsmB
import Derived.Laws.IdiomStrings
namespace Go.Proofs.Ytgbieakahgkkpaa
open Go.RowKit Go.Maps
attribute [local go_sem ↓] Go.wp_at_zero Go.wp_at_succ

structure U where
  n : Nat
  a : Asm
def U.m (u : U) : Nat := u.n + u.a.c + u.a.p.length
def nameS (n : Nat) : ByteArray := ⟨#[46, UInt8.ofNat (97 + n % 26), UInt8.ofNat (97 + n / 26)]⟩
def U.named (u : U) : U := ⟨u.n + 1, u.a⟩
def U.emit (x : Ins) (u : U) : U := ⟨u.n, u.a.emit x⟩
def U.here (s : ByteArray) (u : U) : U := ⟨u.n, u.a.here s⟩
def U.jump (r : Int) (s : ByteArray) (u : U) : U := ⟨u.n, u.a.jump r s⟩
theorem U.m_named (u : U) : u.named.m = u.m + 1 := by simp [U.m, U.named]; omega
theorem U.m_emit (x : Ins) (u : U) : (u.emit x).m = u.m + 1 := by simp [U.m, U.emit, Asm.emit]; omega
theorem U.m_here (s : ByteArray) (u : U) : (u.here s).m = u.m + 1 := by simp [U.m, U.here, Asm.here, Asm.put]; omega
theorem U.m_jump (r : Int) (s : ByteArray) (u : U) : (u.jump r s).m = u.m + 2 := by simp [U.m, U.jump, Asm.jump, Asm.emit, Asm.want]; omega

/-- The writer and its counter in memory. -/
def UW (w : World) (B ub b : Nat) (u : U) : Prop := Blk w ub 90 #[.pointer (some ⟨b, 0, none⟩), .int .i64 (u.n : Int)] ∧ WR w B b u.a ∧ B ≤ ub
/-- Blocks of other kinds stay. -/
def FrU (w w' : World) : Prop := ∀ g t cs, Blk w g t cs → t ≠ 148 → t ≠ 90 → t ≠ 41 → Blk w' g t cs
theorem FrU.refl (w : World) : FrU w w := fun _ _ _ h _ _ _ => h
theorem FrU.trans {a b c : World} (h : FrU a b) (k : FrU b c) : FrU a c := fun g t cs hb h1 h2 h3 => k g t cs (h g t cs hb h1 h2 h3) h1 h2 h3
theorem Fr.u {a b : World} (h : Fr a b) : FrU a b := fun g t cs hb h1 _ h3 => h g t cs hb h1 h3
theorem FrU.drew {a b : World} (h : FrU a b) : FrU a b.drew := h
theorem FrU.alloc {a b : World} (h : FrU a b) (o : Obj) : FrU a (b.alloc o) := fun g t cs hb h1 h2 h3 => (h g t cs hb h1 h2 h3).alloc o
theorem FrU.box {a b : World} (h : FrU a b) {g x : Nat} (hb : Blk a g 86 #[.pointer (some ⟨x, 0, none⟩)]) : Blk b g 86 #[.pointer (some ⟨x, 0, none⟩)] := h g 86 _ hb (by decide) (by decide) (by decide)
def UPost (B ub b : Nat) (u : U) (w : World) (e : Ending) (w' : World) : Prop := e = .returned (.tuple #[]) ∧ UW w' B ub b u ∧ FrU w w' ∧ Below B w w'

section
variable {w w' : World} {B ub b : Nat} {u : U}
theorem UW.drew (h : UW w B ub b u) : UW w.drew B ub b u := h
theorem UW.c0 (h : UW w B ub b u) : w.cell? ⟨ub, 0, none⟩ = some (.pointer (some ⟨b, 0, none⟩)) := by rw [h.1.cell]; rfl
theorem UW.c1 (h : UW w B ub b u) : w.cell? ⟨ub, 1, none⟩ = some (.int .i64 (u.n : Int)) := by rw [h.1.cell]; rfl
theorem UW.size (h : UW w B ub b u) : B ≤ w.heap.size := by have := h.1.lt; have := h.2.2; omega
/-- A method of the inner writer. -/
theorem UW.wrote {a : Asm} {e : Ending} (h : UW w B ub b u) (k : Wrote B b a w e w') : UPost B ub b ⟨u.n, a⟩ w e w' :=
  ⟨k.1, ⟨k.2.2.1 ub 90 _ h.1 (by decide) (by decide), k.2.1, h.2.2⟩, k.2.2.1.u, k.2.2.2⟩
theorem WR.alloc (h : WR w B b u.a) (o : Obj) : WR (w.alloc o) B b u.a := by
  obtain ⟨bm, bf, N, v, Dm, Df, hb, hm, ha, hf, hfr, hN, ho, h1, h2, h3, h4⟩ := h
  exact ⟨bm, bf, N, v, Dm, Df, hb.alloc o, hm.alloc o, ha, hf.alloc o, hfr, hN, ho.alloc o, h1, h2, h3, h4⟩
theorem UW.alloc (h : UW w B ub b u) (o : Obj) : UW (w.alloc o) B ub b u := ⟨h.1.alloc o, h.2.1.alloc o, h.2.2⟩
end
theorem u_head (w : World) (B ub b : Nat) (u : U) (x y : Int) (h : UW w B ub b u) (hm : u.m ≤ 900) : Calls Try.prog 75 #[.pointer (some ⟨b, 0, none⟩), .int .i64 x, .int .i64 y] w (UPost B ub b (u.emit ⟨3, x, y, 0, ByteArray.empty⟩) w) :=
  (aw_head w B b u.a x y h.2.1 (by unfold U.m at hm; omega)).mono fun _ _ k => h.wrote k
theorem u_tail (w : World) (B ub b : Nat) (u : U) (x y : Int) (h : UW w B ub b u) (hm : u.m ≤ 900) : Calls Try.prog 76 #[.pointer (some ⟨b, 0, none⟩), .int .i64 x, .int .i64 y] w (UPost B ub b (u.emit ⟨4, x, y, 0, ByteArray.empty⟩) w) :=
  (aw_tail w B b u.a x y h.2.1 (by unfold U.m at hm; omega)).mono fun _ _ k => h.wrote k
theorem u_move (w : World) (B ub b : Nat) (u : U) (x y : Int) (h : UW w B ub b u) (hm : u.m ≤ 900) : Calls Try.prog 77 #[.pointer (some ⟨b, 0, none⟩), .int .i64 x, .int .i64 y] w (UPost B ub b (u.emit ⟨1, x, y, 0, ByteArray.empty⟩) w) :=
  (aw_move w B b u.a x y h.2.1 (by unfold U.m at hm; omega)).mono fun _ _ k => h.wrote k
theorem u_cons (w : World) (B ub b : Nat) (u : U) (x y z : Int) (h : UW w B ub b u) (hm : u.m ≤ 900) : Calls Try.prog 78 #[.pointer (some ⟨b, 0, none⟩), .int .i64 x, .int .i64 y, .int .i64 z] w (UPost B ub b (u.emit ⟨2, x, y, z, ByteArray.empty⟩) w) :=
  (aw_cons w B b u.a x y z h.2.1 (by unfold U.m at hm; omega)).mono fun _ _ k => h.wrote k
theorem u_set (w : World) (B ub b : Nat) (u : U) (x : Int) (t : ByteArray) (h : UW w B ub b u) (hm : u.m ≤ 900) : Calls Try.prog 79 #[.pointer (some ⟨b, 0, none⟩), .int .i64 x, .string t] w (UPost B ub b (u.emit ⟨0, x, 0, 0, t⟩) w) :=
  (aw_set w B b u.a x t h.2.1 (by unfold U.m at hm; omega)).mono fun _ _ k => h.wrote k
theorem u_here (w : World) (B ub b : Nat) (u : U) (t : ByteArray) (h : UW w B ub b u) (hm : u.m ≤ 900) (ht : t.size ≤ 1000) : Calls Try.prog 80 #[.pointer (some ⟨b, 0, none⟩), .string t] w (UPost B ub b (u.here t) w) :=
  (aw_here w B b u.a t h.2.1 (by unfold U.m at hm; omega) ht (by unfold U.m at hm; omega)).mono fun _ _ k => h.wrote k
theorem u_jump (w : World) (B ub b : Nat) (u : U) (x : Int) (t : ByteArray) (h : UW w B ub b u) (hm : u.m ≤ 900) (ht : t.size ≤ 1000) : Calls Try.prog 81 #[.pointer (some ⟨b, 0, none⟩), .int .i64 x, .string t] w (UPost B ub b (u.jump x t) w) :=
  (aw_jump w B b u.a x t h.2.1 (by unfold U.m at hm; omega) ht (by unfold U.m at hm; omega)).mono fun _ _ k => h.wrote k

theorem u_leap (w : World) (B ub b : Nat) (u : U) (t : ByteArray) (h : UW w B ub b u) (hm : u.m ≤ 900) (ht : t.size ≤ 1000) : Calls Try.prog 82 #[.pointer (some ⟨ub, 0, none⟩), .string t] w (UPost B ub b (u.jump 14 t) w) := by
  have c0 := h.c0
  have K := u_jump w B ub b u 14 t h hm ht
  clear h
  go_enter Try.func82, Try.ntmps82
  go_wp2_with fail
  refine K.mono ?_; rintro e w' ⟨rfl, k⟩
  go_wp2
  go_end0
  exact ⟨rfl, k⟩

theorem WR.set_ub {w : World} {B b ub : Nat} {s : Asm} {cs : Array Value} (h : WR w B b s) (hb : Blk w ub 90 cs) (v : Value) : WR (w.setCell ⟨ub, 1, none⟩ v) B b s := by
  obtain ⟨bm, bf, N, v0, Dm, Df, hbb, hm, ha, hf, hfr, hN, ho, h1, h2, h3, h4⟩ := h
  exact ⟨bm, bf, N, v0, Dm, Df, hbb.far (p := ⟨ub, 1, none⟩) (hbb.ne_ hb (by decide)) _, hm.setCell (map_ne hm hb) _, ha, hf.setCell (map_ne hf hb) _, hfr, hN, own_far ho _ _ (fun e => own_blk_ne ho hb (by decide) e.symm), h1, h2, h3, h4⟩
theorem nameS_size (n : Nat) : (nameS n).size = 3 := rfl
set_option maxHeartbeats 1000000 in
theorem u_name (w : World) (B ub b : Nat) (u : U) (h : UW w B ub b u) (hm : u.m ≤ 900) : Calls Try.prog 138 #[.pointer (some ⟨ub, 0, none⟩)] w fun e w' => e = .returned (.string (nameS u.named.n)) ∧ UW w' B ub b u.named ∧ FrU w w' ∧ Below B w w' := by
  obtain ⟨hb, hr, hB⟩ := h
  have c1 : w.cell? ⟨ub, 1, none⟩ = some (.int .i64 (u.n : Int)) := by rw [hb.cell]; rfl
  have f1 := hb.frozen 1
  have hn : u.n ≤ 900 := by unfold U.m at hm; omega
  obtain ⟨n, hn'⟩ : ∃ n, n = u.n := ⟨_, rfl⟩
  rw [← hn'] at c1 hn
  have HN := hide hn'
  clear hn' hm
  have n0 : (0 : Int) ≤ (n : Int) := by omega
  obtain ⟨W, hW⟩ : ∃ W, W = ((w.setCell ⟨ub, 1, none⟩ (.int .i64 ((n : Int) + 1))).alloc (.cells #[.int .u8 46, .int .u8 (97 + ((n : Int) + 1) % 26), .int .u8 (97 + ((n : Int) + 1) / 26)] 5)).drew := ⟨_, rfl⟩
  have hcv : (convert 152 9 (.slice (some ⟨w.heap.size, 0, none⟩) 3 3)).run Try.prog W = .ok (.string (nameS (n + 1))) W := by
    have hB0 : Blk W w.heap.size 5 #[.int .u8 46, .int .u8 (97 + ((n : Int) + 1) % 26), .int .u8 (97 + ((n : Int) + 1) / 26)] := by
      rw [hW]
      have := (Blk.new (w.setCell ⟨ub, 1, none⟩ (.int .i64 ((n : Int) + 1))) 5 #[.int .u8 46, .int .u8 (97 + ((n : Int) + 1) % 26), .int .u8 (97 + ((n : Int) + 1) / 26)]).drew
      simpa using this
    have hc := run_convert_bytes_back (P := Try.prog) W 152 9 5 ⟨w.heap.size, 0, none⟩ 3 [46, UInt8.ofNat (97 + (n + 1) % 26), UInt8.ofNat (97 + (n + 1) / 26)] Try.underlying152 Try.underlying5 Try.underlying9 (fun j hj => by
      rw [add_at, hB0.cell]
      match j, hj with
      | 0, _ => rfl
      | 1, _ => simp; omega
      | 2, _ => simp; omega)
    exact hc
  rw [hW] at hcv
  clear hW W
  go_enter Try.func138, Try.ntmps138
  go_wp2_with fail
  go_region
  all_goals (try go_wp2)
  go_ret
  have hbs := hb.set_ 1 (.int .i64 ((n : Int) + 1))
  refine ⟨by simp [U.named, ← HN.out], ⟨?_, ?_, hB⟩, ?_, ?_⟩
  · have := ((hbs.alloc (.cells #[.int .u8 46, .int .u8 (97 + ((n : Int) + 1) % 26), .int .u8 (97 + ((n : Int) + 1) / 26)] 5)).drew)
    simpa [U.named, ← HN.out] using this
  · exact ((hr.set_ub hb _).alloc (u := u) _).drew
  · intro g t cs hg h1 h2 h3
    exact ((hg.far (p := ⟨ub, 1, none⟩) (hg.ne_ hb h2) _).alloc _).drew
  · have : B ≤ w.heap.size := by have := hb.lt; omega
    exact (((Below.refl B w).setCell (p := ⟨ub, 1, none⟩) hB _).alloc (by simpa using this) _).drew
end Go.Proofs.Ytgbieakahgkkpaa
