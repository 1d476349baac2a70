import Derived.Test.YtgbieakahgkkpaaAsmA
import Derived.WalkKit
import Derived.WalkSpells
import Derived.WalkLawsBesides
import Derived.Outline
import Derived.Deep.RegionHeld3
import Derived.Deep.RegionLaw
import Derived.Deep.DrawnRows
import Derived.KernelRfl
namespace Go.Proofs.Ytgbieakahgkkpaa
open Go.RowKit Go.Maps
attribute [local go_sem ↓] Go.wp_at_zero Go.wp_at_succ

theorem info41a : (Try.prog.info? 41).map (fun i => (i.zero, i.size, i.bytes)) = some (some (.agg #[.int .i64 0, .int .i64 0, .int .i64 0, .int .i64 0, .string ByteArray.empty]), 5, 48) := by kernel_rfl

/-- What a method of the writer leaves. -/
def Wrote (B b : Nat) (s : Asm) (w : World) (e : Ending) (w' : World) : Prop := e = .returned (.tuple #[]) ∧ WR w' B b s ∧ Fr w w' ∧ Below B w w'

theorem aw_head (w : World) (B b : Nat) (s : Asm) (a c : Int) (h : WR w B b s) (hl : s.p.length ≤ 1000) : Calls Try.prog 75 #[.pointer (some ⟨b, 0, none⟩), .int .i64 a, .int .i64 c] w (Wrote B b (s.emit ⟨3, a, c, 0, ByteArray.empty⟩) w) := by
  obtain ⟨i0, hi0, hz0, hz1, hz2⟩ := info_parts info41a
  obtain ⟨bm, bf, N, v, Dm, Df, hb, hm, ha, hf, hfr, hN, ho, h1, h2, h3, h4⟩ := h
  obtain ⟨A, cap, rfl, hcap⟩ := own_shape ho
  have hB : B ≤ w.heap.size := by have := hb.lt; omega
  have c2 : w.cell? ⟨b, 2, none⟩ = some (.slice A N cap) := by rw [hb.cell]; rfl
  have hNb : N ≤ 1000 := by omega
  have HN := hide hN
  clear hN hl
  go_enter Try.func75, Try.ntmps75
  go_wp2_with ((at_builtin; refine wpList_append_lies _ rfl (.tmp 10) (.tmp 14) _ rfl B 41 i0 (.agg #[.int .i64 0, .int .i64 0, .int .i64 0, .int .i64 0, .string ByteArray.empty]) 5 48 Try.underlying23 hi0 hz0 hz1 hz2 rfl (by omega) _ _ _ rfl (ho.alloc _) ⟨w.heap.size, 0, none⟩ 1 1 [.int .i64 3, .int .i64 a, .int .i64 c, .int .i64 0, .string ByteArray.empty] rfl rfl (World.news_of_block (cs := #[.int .i64 3, .int .i64 a, .int .i64 c, .int .i64 0, .string ByteArray.empty]) (t := 41) (fr := (0, 0)) (heap_alloc_new w _)) (by simp [Value.oneCell']) (by omega) (by unfold maxLen; omega) (by omega) (by simp; omega) _ rfl ?_; intro g c1 w1 hown1 hgrow hat hlt1; have hb1 := (hb.alloc (.cells #[.int .i64 3, .int .i64 a, .int .i64 c, .int .i64 0, .string ByteArray.empty] 41)).grown hgrow (fun e => own_blk_ne ho hb (by decide) e.symm); have f2 := hb1.frozen 2; have d2 : w1.cell? ⟨b, 2, none⟩ = some (.slice A N cap) := by rw [hb1.cell]; rfl))
  go_end0
  exact ⟨rfl, WR.emit hb hm ha hf hfr HN.out ho h1 h2 h3 h4 hgrow hown1⟩

theorem aw_tail (w : World) (B b : Nat) (s : Asm) (a c : Int) (h : WR w B b s) (hl : s.p.length ≤ 1000) : Calls Try.prog 76 #[.pointer (some ⟨b, 0, none⟩), .int .i64 a, .int .i64 c] w (Wrote B b (s.emit ⟨4, a, c, 0, ByteArray.empty⟩) w) := by
  obtain ⟨i0, hi0, hz0, hz1, hz2⟩ := info_parts info41a
  obtain ⟨bm, bf, N, v, Dm, Df, hb, hm, ha, hf, hfr, hN, ho, h1, h2, h3, h4⟩ := h
  obtain ⟨A, cap, rfl, hcap⟩ := own_shape ho
  have hB : B ≤ w.heap.size := by have := hb.lt; omega
  have c2 : w.cell? ⟨b, 2, none⟩ = some (.slice A N cap) := by rw [hb.cell]; rfl
  have hNb : N ≤ 1000 := by omega
  have HN := hide hN
  clear hN hl
  go_enter Try.func76, Try.ntmps76
  go_wp2_with ((at_builtin; refine wpList_append_lies _ rfl (.tmp 10) (.tmp 14) _ rfl B 41 i0 (.agg #[.int .i64 0, .int .i64 0, .int .i64 0, .int .i64 0, .string ByteArray.empty]) 5 48 Try.underlying23 hi0 hz0 hz1 hz2 rfl (by omega) _ _ _ rfl (ho.alloc _) ⟨w.heap.size, 0, none⟩ 1 1 [.int .i64 4, .int .i64 a, .int .i64 c, .int .i64 0, .string ByteArray.empty] rfl rfl (World.news_of_block (cs := #[.int .i64 4, .int .i64 a, .int .i64 c, .int .i64 0, .string ByteArray.empty]) (t := 41) (fr := (0, 0)) (heap_alloc_new w _)) (by simp [Value.oneCell']) (by omega) (by unfold maxLen; omega) (by omega) (by simp; omega) _ rfl ?_; intro g c1 w1 hown1 hgrow hat hlt1; have hb1 := (hb.alloc (.cells #[.int .i64 4, .int .i64 a, .int .i64 c, .int .i64 0, .string ByteArray.empty] 41)).grown hgrow (fun e => own_blk_ne ho hb (by decide) e.symm); have f2 := hb1.frozen 2; have d2 : w1.cell? ⟨b, 2, none⟩ = some (.slice A N cap) := by rw [hb1.cell]; rfl))
  go_end0
  exact ⟨rfl, WR.emit hb hm ha hf hfr HN.out ho h1 h2 h3 h4 hgrow hown1⟩

theorem aw_move (w : World) (B b : Nat) (s : Asm) (a c : Int) (h : WR w B b s) (hl : s.p.length ≤ 1000) : Calls Try.prog 77 #[.pointer (some ⟨b, 0, none⟩), .int .i64 a, .int .i64 c] w (Wrote B b (s.emit ⟨1, a, c, 0, ByteArray.empty⟩) w) := by
  obtain ⟨i0, hi0, hz0, hz1, hz2⟩ := info_parts info41a
  obtain ⟨bm, bf, N, v, Dm, Df, hb, hm, ha, hf, hfr, hN, ho, h1, h2, h3, h4⟩ := h
  obtain ⟨A, cap, rfl, hcap⟩ := own_shape ho
  have hB : B ≤ w.heap.size := by have := hb.lt; omega
  have c2 : w.cell? ⟨b, 2, none⟩ = some (.slice A N cap) := by rw [hb.cell]; rfl
  have hNb : N ≤ 1000 := by omega
  have HN := hide hN
  clear hN hl
  go_enter Try.func77, Try.ntmps77
  go_wp2_with ((at_builtin; refine wpList_append_lies _ rfl (.tmp 10) (.tmp 14) _ rfl B 41 i0 (.agg #[.int .i64 0, .int .i64 0, .int .i64 0, .int .i64 0, .string ByteArray.empty]) 5 48 Try.underlying23 hi0 hz0 hz1 hz2 rfl (by omega) _ _ _ rfl (ho.alloc _) ⟨w.heap.size, 0, none⟩ 1 1 [.int .i64 1, .int .i64 a, .int .i64 c, .int .i64 0, .string ByteArray.empty] rfl rfl (World.news_of_block (cs := #[.int .i64 1, .int .i64 a, .int .i64 c, .int .i64 0, .string ByteArray.empty]) (t := 41) (fr := (0, 0)) (heap_alloc_new w _)) (by simp [Value.oneCell']) (by omega) (by unfold maxLen; omega) (by omega) (by simp; omega) _ rfl ?_; intro g c1 w1 hown1 hgrow hat hlt1; have hb1 := (hb.alloc (.cells #[.int .i64 1, .int .i64 a, .int .i64 c, .int .i64 0, .string ByteArray.empty] 41)).grown hgrow (fun e => own_blk_ne ho hb (by decide) e.symm); have f2 := hb1.frozen 2; have d2 : w1.cell? ⟨b, 2, none⟩ = some (.slice A N cap) := by rw [hb1.cell]; rfl))
  go_end0
  exact ⟨rfl, WR.emit hb hm ha hf hfr HN.out ho h1 h2 h3 h4 hgrow hown1⟩

theorem aw_cons (w : World) (B b : Nat) (s : Asm) (a c d : Int) (h : WR w B b s) (hl : s.p.length ≤ 1000) : Calls Try.prog 78 #[.pointer (some ⟨b, 0, none⟩), .int .i64 a, .int .i64 c, .int .i64 d] w (Wrote B b (s.emit ⟨2, a, c, d, ByteArray.empty⟩) w) := by
  obtain ⟨i0, hi0, hz0, hz1, hz2⟩ := info_parts info41a
  obtain ⟨bm, bf, N, v, Dm, Df, hb, hm, ha, hf, hfr, hN, ho, h1, h2, h3, h4⟩ := h
  obtain ⟨A, cap, rfl, hcap⟩ := own_shape ho
  have hB : B ≤ w.heap.size := by have := hb.lt; omega
  have c2 : w.cell? ⟨b, 2, none⟩ = some (.slice A N cap) := by rw [hb.cell]; rfl
  have hNb : N ≤ 1000 := by omega
  have HN := hide hN
  clear hN hl
  go_enter Try.func78, Try.ntmps78
  go_wp2_with ((at_builtin; refine wpList_append_lies _ rfl (.tmp 12) (.tmp 17) _ rfl B 41 i0 (.agg #[.int .i64 0, .int .i64 0, .int .i64 0, .int .i64 0, .string ByteArray.empty]) 5 48 Try.underlying23 hi0 hz0 hz1 hz2 rfl (by omega) _ _ _ rfl (ho.alloc _) ⟨w.heap.size, 0, none⟩ 1 1 [.int .i64 2, .int .i64 a, .int .i64 c, .int .i64 d, .string ByteArray.empty] rfl rfl (World.news_of_block (cs := #[.int .i64 2, .int .i64 a, .int .i64 c, .int .i64 d, .string ByteArray.empty]) (t := 41) (fr := (0, 0)) (heap_alloc_new w _)) (by simp [Value.oneCell']) (by omega) (by unfold maxLen; omega) (by omega) (by simp; omega) _ rfl ?_; intro g c1 w1 hown1 hgrow hat hlt1; have hb1 := (hb.alloc (.cells #[.int .i64 2, .int .i64 a, .int .i64 c, .int .i64 d, .string ByteArray.empty] 41)).grown hgrow (fun e => own_blk_ne ho hb (by decide) e.symm); have f2 := hb1.frozen 2; have d2 : w1.cell? ⟨b, 2, none⟩ = some (.slice A N cap) := by rw [hb1.cell]; rfl))
  go_end0
  exact ⟨rfl, WR.emit hb hm ha hf hfr HN.out ho h1 h2 h3 h4 hgrow hown1⟩

theorem aw_set (w : World) (B b : Nat) (s : Asm) (a : Int) (t : ByteArray) (h : WR w B b s) (hl : s.p.length ≤ 1000) : Calls Try.prog 79 #[.pointer (some ⟨b, 0, none⟩), .int .i64 a, .string t] w (Wrote B b (s.emit ⟨0, a, 0, 0, t⟩) w) := by
  obtain ⟨i0, hi0, hz0, hz1, hz2⟩ := info_parts info41a
  obtain ⟨bm, bf, N, v, Dm, Df, hb, hm, ha, hf, hfr, hN, ho, h1, h2, h3, h4⟩ := h
  obtain ⟨A, cap, rfl, hcap⟩ := own_shape ho
  have hB : B ≤ w.heap.size := by have := hb.lt; omega
  have c2 : w.cell? ⟨b, 2, none⟩ = some (.slice A N cap) := by rw [hb.cell]; rfl
  have hNb : N ≤ 1000 := by omega
  have HN := hide hN
  clear hN hl
  go_enter Try.func79, Try.ntmps79
  go_wp2_with ((at_builtin; refine wpList_append_lies _ rfl (.tmp 10) (.tmp 14) _ rfl B 41 i0 (.agg #[.int .i64 0, .int .i64 0, .int .i64 0, .int .i64 0, .string ByteArray.empty]) 5 48 Try.underlying23 hi0 hz0 hz1 hz2 rfl (by omega) _ _ _ rfl (ho.alloc _) ⟨w.heap.size, 0, none⟩ 1 1 [.int .i64 0, .int .i64 a, .int .i64 0, .int .i64 0, .string t] rfl rfl (World.news_of_block (cs := #[.int .i64 0, .int .i64 a, .int .i64 0, .int .i64 0, .string t]) (t := 41) (fr := (0, 0)) (heap_alloc_new w _)) (by simp [Value.oneCell']) (by omega) (by unfold maxLen; omega) (by omega) (by simp; omega) _ rfl ?_; intro g c1 w1 hown1 hgrow hat hlt1; have hb1 := (hb.alloc (.cells #[.int .i64 0, .int .i64 a, .int .i64 0, .int .i64 0, .string t] 41)).grown hgrow (fun e => own_blk_ne ho hb (by decide) e.symm); have f2 := hb1.frozen 2; have d2 : w1.cell? ⟨b, 2, none⟩ = some (.slice A N cap) := by rw [hb1.cell]; rfl))
  go_end0
  exact ⟨rfl, WR.emit hb hm ha hf hfr HN.out ho h1 h2 h3 h4 hgrow hown1⟩

theorem aw_name (w : World) (B b : Nat) (s : Asm) (n : ByteArray) (i : Nat) (h : WR w B b s) (hc : s.c ≤ 1000) (hn : n.size ≤ 1000) (hi : i ≤ 1000) : Calls Try.prog 136 #[.pointer (some ⟨b, 0, none⟩), .string n, .int .i64 i] w (Wrote B b (s.put n i) w) := by
  obtain ⟨bm, bf, N, v, Dm, Df, hb, hm, ha, hf, hfr, hN, ho, h1, h2, h3, h4⟩ := h
  have c0 : w.cell? ⟨b, 0, none⟩ = some (.map (some bm)) := by rw [hb.cell]; rfl
  have hkey := Go.WideMaps.keyOf_string_mk (P := Try.prog) (k := 9) Try.underlying9 (s := n) (by unfold maxLen; omega)
  have HN := hide hN
  clear hN
  go_enter Try.func136, Try.ntmps136
  go_wp2_with (first | (at_mapUpdate; refine wpList_mapUpdate_own _ rfl _ _ _ 143 rfl 9 3 law9 Try.underlying143 _ bm s.c Dm rfl hm (by unfold maxLen; omega) _ _ _ rfl rfl hkey _ [] (plainElem_int Try.underlying3 (WalkArith.wf_i64 (by omega))) ?_; intro w1 hown1 hgrow1))
  go_end0
  exact ⟨rfl, WR.put_ hb ha hf hfr HN.out ho h1 h2 h3 h4 hm hown1 hgrow1⟩

theorem aw_want (w : World) (B b : Nat) (s : Asm) (n : ByteArray) (i : Nat) (h : WR w B b s) (hc : s.c ≤ 1000) (hn : n.size ≤ 1000) (hi : i ≤ 1000) : Calls Try.prog 137 #[.pointer (some ⟨b, 0, none⟩), .int .i64 i, .string n] w (Wrote B b (s.want i n) w) := by
  obtain ⟨bm, bf, N, v, Dm, Df, hb, hm, ha, hf, hfr, hN, ho, h1, h2, h3, h4⟩ := h
  have c0 : w.cell? ⟨b, 1, none⟩ = some (.map (some bf)) := by rw [hb.cell]; rfl
  have hkey := keyOf_int_mk (P := Try.prog) (k := 3) Try.underlying3 (WalkArith.wf_i64 (n := (i : Int)) (by omega))
  have HN := hide hN
  clear hN
  go_enter Try.func137, Try.ntmps137
  go_wp2_with (first | (at_mapUpdate; refine wpList_mapUpdate_own _ rfl _ _ _ 144 rfl 3 9 law3 Try.underlying144 _ bf s.c Df rfl hf (by unfold maxLen; omega) _ _ _ rfl rfl hkey _ [] (plainElem_string Try.underlying9 (by unfold maxLen; omega)) ?_; intro w1 hown1 hgrow1))
  go_end0
  exact ⟨rfl, WR.want_ hb hm ha hfr HN.out ho h1 h2 h3 h4 hf hown1 hgrow1⟩

theorem WR.drew {w : World} {B b : Nat} {s : Asm} (h : WR w B b s) : WR w.drew B b s := h
theorem aw_here (w : World) (B b : Nat) (s : Asm) (n : ByteArray) (h : WR w B b s) (hc : s.c ≤ 1000) (hn : n.size ≤ 1000) (hl : s.p.length ≤ 1000) : Calls Try.prog 80 #[.pointer (some ⟨b, 0, none⟩), .string n] w (Wrote B b (s.here n) w) := by
  have H := h
  obtain ⟨bm, bf, N, v, Dm, Df, hb, hm, ha, hf, hfr, hN, ho, h1, h2, h3, h4⟩ := h
  obtain ⟨A, cap, rfl, hcap⟩ := own_shape ho
  have c2 : w.cell? ⟨b, 2, none⟩ = some (.slice A N cap) := by rw [hb.cell]; rfl
  have hNb : N ≤ 1000 := by omega
  have HN := hide hN
  have K := aw_name w.drew B b s n N H.drew hc hn hNb
  clear hb hm ha hf hfr hN ho h1 h2 h3 h4 hcap H hc hn
  go_enter Try.func80, Try.ntmps80
  go_region_with (go_at_call 136; refine K.mono ?_; rintro e w' ⟨rfl, k1, k2, k3⟩)
  all_goals (try go_wp2)
  all_goals (go_end0; exact ⟨rfl, by unfold Asm.here; rw [← HN.out]; exact k1, k2, (Below.refl B w).drew.trans k3⟩)

theorem aw_jump (w : World) (B b : Nat) (s : Asm) (a : Int) (n : ByteArray) (h : WR w B b s) (hc : s.c ≤ 1000) (hn : n.size ≤ 1000) (hl : s.p.length ≤ 1000) : Calls Try.prog 81 #[.pointer (some ⟨b, 0, none⟩), .int .i64 a, .string n] w (Wrote B b (s.jump a n) w) := by
  obtain ⟨i0, hi0, hz0, hz1, hz2⟩ := info_parts info41a
  have H := h
  obtain ⟨bm, bf, N, v, Dm, Df, hb, hm, ha, hf, hfr, hN, ho, h1, h2, h3, h4⟩ := h
  obtain ⟨A, cap, rfl, hcap⟩ := own_shape ho
  have c2 : w.cell? ⟨b, 2, none⟩ = some (.slice A N cap) := by rw [hb.cell]; rfl
  have hNb : N ≤ 1000 := by omega
  have HN := hide hN
  have K := aw_want w.drew B b s n N H.drew hc hn hNb
  clear hb hm ha hf hfr hN ho h1 h2 h3 h4 hcap H hc hn
  go_enter Try.func81, Try.ntmps81
  go_wp2_with fail
  go_region_with (go_at_call 137; refine K.mono ?_; rintro e w0 ⟨rfl, k1, k2, k3⟩)
  obtain ⟨bm, bf, N', v, Dm, Df, hb, hm, ha, hf, hfr, hN', ho, h1, h2, h3, h4⟩ := k1
  obtain ⟨A', cap', rfl, hcap'⟩ := own_shape ho
  have hB : B ≤ w0.heap.size := by have := hb.lt; omega
  have c2' : w0.cell? ⟨b, 2, none⟩ = some (.slice A' N' cap') := by rw [hb.cell]; rfl
  have hNb' : N' ≤ 1000 := by rw [hN']; exact hl
  have HN' := hide hN'
  clear hN'
  go_wp2_with ((at_builtin; refine wpList_append_lies _ rfl (.tmp 20) (.tmp 23) _ rfl B 41 i0 (.agg #[.int .i64 0, .int .i64 0, .int .i64 0, .int .i64 0, .string ByteArray.empty]) 5 48 Try.underlying23 hi0 hz0 hz1 hz2 rfl (by omega) _ _ _ rfl (ho.alloc _) ⟨w0.heap.size, 0, none⟩ 1 1 [.int .i64 5, .int .i64 a, .int .i64 0, .int .i64 0, .string ByteArray.empty] rfl rfl (World.news_of_block (cs := #[.int .i64 5, .int .i64 a, .int .i64 0, .int .i64 0, .string ByteArray.empty]) (t := 41) (fr := (0, 0)) (heap_alloc_new w0 _)) (by simp [Value.oneCell']) (by omega) (by unfold maxLen; omega) (by omega) (by simp; omega) _ rfl ?_; intro g c1 w1 hown1 hgrow hat hlt1; have hb1 := (hb.alloc (.cells #[.int .i64 5, .int .i64 a, .int .i64 0, .int .i64 0, .string ByteArray.empty] 41)).grown hgrow (fun e => own_blk_ne ho hb (by decide) e.symm); have f2 := hb1.frozen 2; have d2 : w1.cell? ⟨b, 2, none⟩ = some (.slice A' N' cap') := by rw [hb1.cell]; rfl))
  go_end0
  obtain ⟨r1, r2, r3⟩ := WR.emit (x := ⟨5, a, 0, 0, ByteArray.empty⟩) hb hm ha hf hfr HN'.out ho h1 h2 h3 h4 hgrow hown1
  refine ⟨rfl, ?_, k2.trans r2, (Below.refl B w).drew.trans (k3.trans r3)⟩
  unfold Asm.jump
  rw [← HN.out]
  exact r1

theorem aw_new (w : World) : Calls Try.prog 74 #[] w fun e w' => e = .returned (.pointer (some ⟨w.heap.size + 2, 0, none⟩)) ∧ WR w' w.heap.size (w.heap.size + 2) Asm.new ∧ Below w.heap.size w w' := by
  have hmm := @run_makeMap Try.prog
  go_enter Try.func74, Try.ntmps74
  go_wp2
  go_ret
  refine ⟨rfl, ⟨w.heap.size, w.heap.size + 1, 0, .slice none 0 0, .map [], .map [], ?_, ?_, AtIs.empty, ?_, FromIs.empty, rfl, World.ownsRow_nil _ _ _ _, by omega, by omega, by omega, by omega⟩, ?_⟩
  · have := Blk.new ((w.alloc (.map #[] 0)).alloc (.map #[] 0)) 148 #[.map (some w.heap.size), .map (some (w.heap.size + 1)), .slice none 0 0]
    simpa using this
  · exact ((World.ownsMap_made w Try.prog 9 (plainElem Try.prog 3)).alloc _).alloc _
  · have := ((World.ownsMap_made (H := Unit) (w.alloc (.map #[] 0)) Try.prog 3 (plainElem Try.prog 9)).alloc (.cells #[.map (some w.heap.size), .map (some (w.heap.size + 1)), .slice none 0 0] 148))
    simpa [Asm.new] using this
  · exact (((Below.refl _ _).alloc (Nat.le_refl _) _).alloc (by simp) _).alloc (by simp; omega) _
end Go.Proofs.Ytgbieakahgkkpaa
