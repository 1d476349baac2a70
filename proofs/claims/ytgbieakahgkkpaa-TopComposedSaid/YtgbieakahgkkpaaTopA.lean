import Derived.Test.YtgbieakahgkkpaaProg
import Derived.Test.YtgbieakahgkkpaaMem
import Derived.WalkKit
import Derived.WalkSpells
import Derived.Outline
import Derived.Deep.RegionHeld3
import Derived.Deep.RegionLaw
import Derived.Deep.DrawnRows
import Derived.KernelRfl
namespace Go.Proofs.Ytgbieakahgkkpaa
open Go.RowKit
attribute [local go_sem ↓] Go.wp_at_zero Go.wp_at_succ

theorem size_nil (w : World) : Calls Try.prog 63 #[.pointer none] w fun e w' => e = .returned (.int .i64 1) ∧ w = w' := by
  go_enter Try.func63, Try.ntmps63
  go_wp2
  go_ret
  exact ⟨rfl, rfl⟩
theorem size_ptr (w : World) (b : Nat) (n : Int) (h : w.cell? ⟨b, 2, none⟩ = some (.int .i64 n)) : Calls Try.prog 63 #[.pointer (some ⟨b, 0, none⟩)] w fun e w' => e = .returned (.int .i64 n) ∧ w = w' := by
  go_enter Try.func63, Try.ntmps63
  go_wp2
  go_ret
  exact ⟨rfl, rfl⟩
/-- size: how many characters a tree has. -/
theorem size_any (w : World) (p : Option Addr) (t : T) (h : Rep 102 w p t) : Calls Try.prog 63 #[.pointer p] w fun e w' => e = .returned (.int .i64 t.size) ∧ w = w' := by
  cases t with
  | nil => unfold Rep at h; subst h; exact size_nil w
  | pair a b =>
    unfold Rep at h
    obtain ⟨g, pa, pb, rfl, hb, _⟩ := h
    exact size_ptr w g _ (by rw [hb.cell]; rfl)
/-- pair: a new cell. -/
theorem pair_any (w : World) (pa pb : Option Addr) (a b : T) (ha : Rep 102 w pa a) (hb : Rep 102 w pb b) (hs : a.size + b.size ≤ 1000000000000000) :
    Calls Try.prog 25 #[.pointer pa, .pointer pb] w fun e w' => e = .returned (.pointer (some ⟨w.heap.size, 0, none⟩)) ∧ w.alloc (.cells #[.pointer pa, .pointer pb, .int .i64 (T.pair a b).size] 102) = w' := by
  go_enter Try.func25, Try.ntmps25
  have h0 : (0:Int) ≤ a.size := by omega
  have h1 : (0:Int) ≤ b.size := by omega
  have h2 : (a.size:Int) + b.size ≤ 1000000000000000 := by omega
  go_wp2_with fail
  refine (size_any _ _ _ ha).mono ?_; rintro e w' ⟨rfl, rfl⟩
  go_wp2_with fail
  refine (size_any _ _ _ hb).mono ?_; rintro e w' ⟨rfl, rfl⟩
  go_wp2
  go_ret
  exact ⟨rfl, rfl⟩

theorem info25 : (Try.prog.info? 25).map (fun i => (i.zero, i.size, i.bytes)) = some (some (.pointer none), 1, 8) := by kernel_rfl

def growSpec (s : ByteArray) (most : Int) : Option T := if (s.size : Int) > most then none else parse s.data.toList


set_option maxRecDepth 100000 in
set_option maxHeartbeats 1000000 in
/-- grow: the tree of a string, or none. -/
theorem grow_any (s : ByteArray) (most : Int) (w : World) (hm : 0 ≤ most ∧ most ≤ 100000000) :
    Calls Try.prog 21 #[.string s, .int .i64 most] w (Grown_ 102 (growSpec s most) w) := by
  obtain ⟨i0, hi0, hz0, hz1, hz2⟩ := info_parts info25
  by_cases hbig : most < (s.size : Int)
  · go_enter Try.func21, Try.ntmps21
    go_wp2
    go_ret2
    have e : growSpec s most = none := by unfold growSpec; rw [if_pos (by omega)]
    rw [e]
    exact ⟨none, rfl, Below.refl _ _, fun _ => rfl, fun t h => by cases h⟩
  · have e : growSpec s most = parse s.data.toList := by unfold growSpec; rw [if_neg (by omega)]
    rw [e]
    clear e
    go_enter Try.func21, Try.ntmps21
    go_wp2
    go_loopw [6, 7] (fun l i wr => StkRel 102 25 s w.heap.size w l i wr) (fun _ i _ => (intOf i + 1).toNat)
    case atStart => exact StkRel.start
    case round =>
      obtain ⟨k, N, ts, ps, hk, rfl, hst, hN, hreps, hown, hbel⟩ := hrel
      have hts := stk_len hst
      rw [← hN] at hts
      have HN := hide hN
      clear hN
      have hsz := hbel.size
      match k, hk with
      | 0, _ =>
        obtain ⟨A, cap, rfl, hcap⟩ := own_shape hown
        have hN0 : N ≤ 100000000 := by simp at hts; omega
        by_cases h1 : N = 1
        · subst h1
          obtain ⟨g, rfl, hlt, hgb⟩ := own_form hown (by omega)
          match ts, HN, hreps with
          | [t], _, hreps =>
            obtain ⟨pa, ps0, rfl, hl0, ra, hr0⟩ := hreps.top
            have hp : ps0 = [] := List.eq_nil_of_length_eq_zero hl0
            have ca : wr.cell? ⟨g, 0, none⟩ = some (.pointer pa) := own_cell hown 0 (by simp [ptrs, hp])
            clear hp
            go_wp2
            go_ret2
            have e : parse s.data.toList = some t := by simp at hst; simp [parse, hst]
            rw [e]
            exact ⟨pa, rfl, hbel, fun h => (by cases h), fun t' h => by cases h; exact ra⟩
          | _ :: _ :: _, HN, _ => have := HN.out; simp at this
        · have hne : ((N : Int) == 1) = false := by rw [beq_eq_false_iff_ne]; omega
          go_wp2
          go_ret2
          have e : parse s.data.toList = none := by
            simp at hst
            unfold parse
            rw [hst]
            match ts, HN with
            | [], _ => rfl
            | [t], HN => exact absurd HN.out h1
            | _ :: _ :: _, _ => rfl
          rw [e]
          exact ⟨none, rfl, hbel, fun _ => rfl, fun t h => by cases h⟩
      | j + 1, hk =>
        have e : (((j + 1 : Nat) : Int) - 1) = (j : Int) := by omega
        rw [e]
        clear e
        have hj0 : (0 : Int) ≤ (j : Int) := by omega
        have hj1 : (j : Int) < (s.size : Int) := by omega
        have hj : j < s.size := by omega
        have hn : N + 1 ≤ 100000000 := by simp at hts; omega
        clear hts
        by_cases h48 : s[j] = 48
        · have hc : ((s[j].toNat : Int) == 48) = true := by rw [h48]; rfl
          go_wp2_with ((at_builtin; refine wpList_append_lies _ rfl _ _ _ rfl w.heap.size 25 i0 (.pointer none) 1 8 Try.underlying98 hi0 hz0 hz1 hz2 rfl (by omega) _ _ _ rfl (hown.alloc _) ⟨wr.heap.size, 0, none⟩ 1 1 [.pointer none] rfl rfl (World.news_of_block (cs := #[.pointer none]) (t := 25) (fr := (0, 0)) (heap_alloc_new wr _)) (by simp [Value.oneCell']) (by omega) (by unfold maxLen; omega) (by omega) (by simp; omega) _ rfl ?_; intro g cap w1 hown1 hgrow hat hlt))
          go_wp2
          go_roundw
          case rel => exact StkRel.leaf hj h48 HN.out hsz (by decide) hst hreps hown hbel hown1 hgrow
          case measure => simp [intOf]
        · have hc : ((s[j].toNat : Int) == 48) = false := by
            rw [beq_eq_false_iff_ne]
            intro h
            exact h48 (UInt8.toNat_inj.1 (by simp; omega))
          obtain ⟨A, cap, rfl, hcap⟩ := own_shape hown
          by_cases h49 : s[j] = 49
          · have hc' : ((s[j].toNat : Int) == 49) = true := by rw [h49]; rfl
            have hstn : ts.length < 2 → parse s.data.toList = none := fun h => by
              apply parse_none_of_drop (k := j)
              rw [data_get s j hj, h49]
              exact stk_one_none hst h
            by_cases hN2 : N < 2
            · have HP := hide (hstn (by have := HN.out; omega))
              clear hstn
              go_wp2
              go_ret2
              rw [HP.out]
              exact ⟨none, rfl, hbel, fun _ => rfl, fun t h => by cases h⟩
            · clear hstn
              match ts, HN, hreps, hst with
              | [], HN, _, _ => have := HN.out; simp at this; omega
              | [_], HN, _, _ => have := HN.out; simp at this; omega
              | a :: b :: r, HN, hreps, hst =>
                obtain ⟨n, rfl, hnr⟩ : ∃ n, N = n + 2 ∧ n = r.length := ⟨r.length, HN.out, rfl⟩
                have HNR := hide hnr
                clear hnr HN
                obtain ⟨g, rfl, hlt, hgb⟩ := own_form hown (by omega)
                obtain ⟨pa, pb, ps0, rfl, hl0', ra, rb, hr0⟩ := hreps.top2
                have hl0 : ps0.length = n := by rw [hl0', HNR.out]
                clear hl0'
                have ca : wr.cell? ⟨g, n + 1, none⟩ = some (.pointer pa) := own_cell hown (n + 1) (by simp [ptrs, hl0])
                have cb : wr.cell? ⟨g, n, none⟩ = some (.pointer pb) := own_cell hown n (by simp [ptrs, hl0])
                have HL0 := hide hl0
                clear hl0
                have x0 : (0 : Int) ≤ (n : Int) := by omega
                have x1 : (n : Int) ≤ (cap : Int) := by omega
                have x2 : (0 : Int) ≤ (n : Int) + 1 := by omega
                have x3 : (n : Int) + 1 < (n : Int) + 2 := by omega
                have x4 : (n : Int) < (n : Int) + 2 := by omega
                have x5 : ((n : Int) + 1).toNat = n + 1 := by omega
                have x6 : IntKind.i64.wrap ((n : Int) + 2 - 2) = (n : Int) := by rw [IntKind.wrap_i64]; omega
                have x7 : IntKind.i64.wrap ((n : Int) + 2 - 1) = (n : Int) + 1 := by rw [IntKind.wrap_i64]; omega
                have x8 : IntKind.i64.wrap (n : Int) = (n : Int) := by rw [IntKind.wrap_i64]; omega
                have hsum := stk_size hst
                have hS : a.size + b.size ≤ 100000000 := by simp at hsum; omega
                clear hsum
                have hfz : wr.frozen? ⟨g, n, none⟩ = false := own_frozen hown n
                have hcap1 : n + 1 ≤ cap := by omega
                go_wp2_with fail
                go_region_with (go_at_call 25; refine (pair_any _ _ _ a b ra.drew rb.drew (by omega)).mono ?_; rintro e w' ⟨rfl, rfl⟩)
                all_goals go_wp2
                all_goals go_roundw
                all_goals first | exact StkRel.node hj h49 HNR.out (by decide) hst ra rb hr0 HL0.out (by omega) hown hbel hgb hsz | simp [intOf]
          · have hc' : ((s[j].toNat : Int) == 49) = false := by
              rw [beq_eq_false_iff_ne]
              intro h
              exact h49 (UInt8.toNat_inj.1 (by simp; omega))
            have HP := hide (parse_none_of_drop (k := j) (s := s.data.toList) (by rw [data_get s j hj]; exact stk_other h48 h49))
            go_wp2
            go_ret2
            rw [HP.out]
            exact ⟨none, rfl, hbel, fun _ => rfl, fun t h => by cases h⟩
end Go.Proofs.Ytgbieakahgkkpaa
