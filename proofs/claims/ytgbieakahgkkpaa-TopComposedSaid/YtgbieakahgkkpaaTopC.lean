import Derived.Test.YtgbieakahgkkpaaProg
import Derived.Test.YtgbieakahgkkpaaPMem
import Derived.Test.YtgbieakahgkkpaaTopA
import Derived.WalkKit
import Derived.WalkSpells
import Derived.WalkLawsBesides
import Derived.Outline
import Derived.Deep.RegionHeld3
import Derived.Deep.DrawnRows
import Derived.KernelRfl
import Derived.Laws.IdiomStrings
namespace Go.Proofs.Ytgbieakahgkkpaa
open Go.RowKit
attribute [local go_sem ↓] Go.wp_at_zero Go.wp_at_succ
theorem info5 : (Try.prog.info? 5).map (fun i => (i.zero, i.size, i.bytes)) = some (some (.int .u8 0), 1, 1) := by kernel_rfl

set_option maxHeartbeats 1000000 in
set_option maxRecDepth 100000 in
theorem text_any (w : World) (p : Option Addr) (t : T) (h : Rep 102 w p t) (hs : t.size ≤ 100000000) :
    Calls Try.prog 100 #[.pointer p] w fun e w' => e = .returned (.string t.str) ∧ Below w.heap.size w w' := by
  obtain ⟨i0, hi0, hz0, hz1, hz2⟩ := info_parts info25
  obtain ⟨i1, hj0, hj1, hj2, hj3⟩ := info_parts info5
  go_enter Try.func100, Try.ntmps100
  go_wp2
  go_loopw [3, 4] (fun out l wr => TxtRel 102 25 5 t w.heap.size w out l wr) (fun out _ _ => t.size - lenV out)
  case atStart =>
    refine ⟨[], 0, 1, [t], [p], by simp, rfl, rfl, .cons (h.alloc _) .nil, World.ownsRow_nil _ _ _ _, ?_, (Below.refl _ _).alloc (Nat.le_refl _) _⟩
    exact ⟨rfl, .inr ⟨w.heap.size, 1, #[.pointer p], rfl, Nat.le_refl _, heap_alloc_new w _, Nat.le_refl _, by decide, rfl, rfl⟩⟩
  case round =>
    obtain ⟨done, M, N, ts, ps, hd, hM, hN, hreps, ho, hl, hbel⟩ := hrel
    obtain ⟨A, cap, rfl, hcap⟩ := own_shape hl
    have hlen := TxtRel.bound hd
    have HD := hide hd
    have hM1 : M + N ≤ t.size := by omega
    have HM := hide hM
    have HN := hide hN
    clear hd hM hN hlen
    have hsz := hbel.size
    by_cases h0 : N = 0
    · subst h0
      have hts : ts = [] := List.eq_nil_of_length_eq_zero HN.out.symm
      subst hts
      have hdone : done = t.bytes := by simpa using HD.out
      have hMs : M = t.size := by rw [HM.out, hdone, T.bytes_length]
      obtain ⟨A1, cap1, rfl, _⟩ := own_shape ho
      obtain ⟨g, rfl, hlt, hgb⟩ := own_form ho (by have := t.size_pos; omega)
      have hcv : (convert 152 9 (.slice (some ⟨g, 0, none⟩) M cap1)).run Try.prog wr = .ok (.string t.str) wr := by
        have hc := run_convert_bytes_back (P := Try.prog) wr 152 9 5 ⟨g, 0, none⟩ cap1 done Try.underlying152 Try.underlying5 Try.underlying9 (fun j hj => by
          rw [add_at]
          exact own_cell ho j (by simp [byteVals, hj]))
        rw [HM.out, hc, hdone]
        rfl
      clear hdone hMs
      go_wp2
      go_ret
      exact ⟨rfl, hbel⟩
    · obtain ⟨n, rfl⟩ : ∃ n, N = n + 1 := ⟨N - 1, by omega⟩
      obtain ⟨g, rfl, hlt, hgb⟩ := own_form hl (by omega)
      match ts, HN, HD, hreps with
      | a :: r, HN, HD, hreps =>
        obtain ⟨pa, ps0, rfl, hl0, ra, hr0⟩ := hreps.top
        have hnr : n = r.length := by have := HN.out; simpa using this
        have ca : wr.cell? ⟨g, n, none⟩ = some (.pointer pa) := own_cell hl n (by simp [ptrs, hl0, hnr])
        have HNR := hide hnr
        have HL0 := hide hl0
        clear hnr hl0 HN h0
        match a, HD, ra with
        | .nil, HD, ra =>
          have e : pa = none := ra
          subst e
          go_wp2_with ((at_builtin; refine wpList_append_lies _ rfl _ _ _ rfl w.heap.size 5 i1 (.int .u8 0) 1 1 Try.underlying152 hj0 hj1 hj2 hj3 rfl (by omega) _ _ _ rfl (ho.alloc _) ⟨wr.heap.size, 0, none⟩ 1 1 [.int .u8 48] rfl rfl (World.news_of_block (cs := #[.int .u8 48]) (t := 5) (fr := (0, 0)) (heap_alloc_new wr _)) (by simp [Value.oneCell']) (by omega) (by unfold maxLen; omega) (by omega) (by simp; omega) _ rfl ?_; intro g1 cap1 w1 hown1 hgrow hat hlt1))
          go_wp2
          go_roundw
          case rel => exact TxtRel.leaf HD.out HM.out HNR.out hr0 HL0.out ho hl hbel hsz (by decide) (by decide) hown1 hgrow
          case measure =>
            obtain ⟨A0, c0, rfl, _⟩ := own_shape ho
            simp [lenV]; omega
        | .pair a1 a2, HD, ra =>
          obtain ⟨gn, p1, p2, rfl, hbn, ra1, ra2⟩ := ra
          go_wp2_with ((at_builtin; refine wpList_append_lies _ rfl (.tmp 27) (.tmp 28) _ rfl w.heap.size 5 i1 (.int .u8 0) 1 1 Try.underlying152 hj0 hj1 hj2 hj3 rfl (by omega) _ _ _ rfl (ho.alloc _) ⟨wr.heap.size, 0, none⟩ 1 1 [.int .u8 49] rfl rfl (World.news_of_block (cs := #[.int .u8 49]) (t := 5) (fr := (0, 0)) (heap_alloc_new wr _)) (by simp [Value.oneCell']) (by omega) (by unfold maxLen; omega) (by omega) (by simp; omega) _ rfl ?_; intro g1 cap1 w1 hown1 hgrow hat hlt1))
          go_wp2_with fail
          have hl1 : w1.ownsRow w.heap.size 25 1 (.slice (some ⟨g, 0, none⟩) (n + 1) cap) (n + 1) (ptrs (ps0 ++ [some ⟨gn, 0, none⟩])) := by
            obtain ⟨cs, hcs⟩ := own_setCell_block (hl.alloc (.cells #[.int .u8 49] 5))
            exact (hl.alloc _).kept hgrow (.inr (fun h => own_blk_ne (ho.alloc _) hcs (by decide) h.symm))
          have hl2 := own_cut (m := n) (by omega) hl1
          have e : (ptrs (ps0 ++ [some ⟨gn, 0, none⟩])).take (n * 1) = ptrs ps0 := by simp [ptrs, HNR.out, ← HL0.out]
          rw [e] at hl2
          clear e
          have hbn1 : Blk w1 gn 102 _ := (((NK.refl 102 wr).alloc _).grown (ho.alloc _) (by decide) hgrow) _ _ hbn
          have c0 : w1.cell? ⟨gn, 0, none⟩ = some (.pointer p1) := by rw [hbn1.cell]; rfl
          have c1 : w1.cell? ⟨gn, 1, none⟩ = some (.pointer p2) := by rw [hbn1.cell]; rfl
          have hlt2 : gn < w1.heap.size := hbn1.lt
          have hg2 : g ≠ gn := by
            obtain ⟨cs, hcs⟩ := own_setCell_block hl1
            exact hcs.ne_ hbn1 (by decide)
          have hB1 : w.heap.size ≤ w1.heap.size := by have := hgrow.size; simp at this; omega
          have hkeep : ∀ w2 : World, ((w1.alloc (.cells #[.pointer p2, .pointer p1] 25)).drew).grownBy w2 (some g) → w2.cell? ⟨gn, 0, none⟩ = some (.pointer p1) ∧ w2.cell? ⟨gn, 1, none⟩ = some (.pointer p2) := fun w2 hw => by
            have h := ((hbn1.alloc (.cells #[.pointer p2, .pointer p1] 25)).drew).grown hw (by simp; omega)
            exact ⟨by rw [h.cell]; rfl, by rw [h.cell]; rfl⟩
          go_region_held3 (fun w' => w'.cell? ⟨gn, 0, none⟩ = some (.pointer p1) ∧ w'.cell? ⟨gn, 1, none⟩ = some (.pointer p2))
            (first | go_keep | exact hkeep _ hgrow2)
            ((refine step_append_lies _ (by rfl) _ _ _ (by rfl) w.heap.size 25 i0 _ 1 8 Try.underlying98 hi0 hz0 hz1 hz2 rfl (by omega) (.slice (some ⟨g, 0, none⟩) n cap) n (ptrs ps0) (by rfl) ((hl2.alloc _).drew) ⟨w1.heap.size, 0, none⟩ 2 2 [.pointer p2, .pointer p1] (by rfl) (by rfl) (World.news_of_block (cs := #[.pointer p2, .pointer p1]) (t := 25) (fr := (0, 0)) (heap_alloc_new w1 _)) (by simp [Value.oneCell']) (by omega) (by unfold maxLen; omega) (by omega) (by simp; omega) (w1.heap.size + 1) (by simp) ?_; intro g3 cap3 w2 hown2 hgrow2 hat2 hlt3))
          go_wp2
          go_roundw
          case rel => exact TxtRel.node HD.out HM.out HNR.out hr0 ra1 ra2 ho hl hbel hsz (by decide) (by decide) (by decide) hown1 hgrow hown2 hgrow2
          case measure =>
            obtain ⟨A0, c0, rfl, _⟩ := own_shape ho
            simp [lenV]; omega
end Go.Proofs.Ytgbieakahgkkpaa
