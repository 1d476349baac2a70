import Derived.Test.YtgbieakahgkkpaaProg
import Derived.Test.YtgbieakahgkkpaaPMem
import Derived.Test.YtgbieakahgkkpaaScan
import Derived.WalkKit
import Derived.WalkSpells
import Derived.WalkLawsBesides
import Derived.Outline
import Derived.KernelRfl
import Derived.Laws.RangeAny
namespace Go.Proofs.Ytgbieakahgkkpaa
open Go.RowKit

theorem width_pos (s : ByteArray) (pos : Nat) (h : pos < s.size) : 1 ≤ (Utf8.decode s pos).2 := by
  by_cases ha : (s[pos]'h).toNat < 128
  · rw [decode_ascii s pos h ha]
    exact Nat.le_refl _
  · exact (decode_high s pos h (by omega)).2

def EndPost (r : Option Nat) (off : Nat) (w : World) (e : Ending) (w' : World) : Prop :=
  (match r with
    | none => e = .returned (.tuple #[.int .i64 0, .bool false])
    | some k => e = .returned (.tuple #[.int .i64 ((off : Int) + k), .bool true])) ∧ Below w.heap.size w w'

def EndRel (s : ByteArray) (w : World) (res : Option Nat) (o : Value) (wr : World) : Prop :=
  ∃ (pos o' : Nat), wr = w.iter s pos ∧ o = .int .i64 o' ∧ 1 ≤ o' ∧ o' ≤ pos + 1 ∧ scanEnd (s.data.toList.drop pos) o' pos = res

set_option maxRecDepth 100000 in
/-- tree.end: the place behind the tree that begins at a place of a string. -/
theorem end_any (s : ByteArray) (off : Nat) (w : World) (hs : s.size ≤ 140737488351232) (ho : off ≤ s.size) :
    Calls Try.prog 182 #[.string s, .int .i64 off] w (EndPost (scanEnd (s.extract off s.size).data.toList 1 0) off w) := by
  have hoi : (off : Int) ≤ (s.size : Int) := by omega
  have ho0 : (0 : Int) ≤ (off : Int) := by omega
  obtain ⟨u, hu⟩ : ∃ u, u = s.extract off s.size := ⟨_, rfl⟩
  have hus : u.size ≤ 140737488351232 := by rw [hu]; simp; omega
  rw [← hu]
  have hu' := hu.symm
  clear hu
  go_enter Try.func182, Try.ntmps182
  go_wp2
  go_loopw [6] (fun o wr => EndRel u w (scanEnd u.data.toList 1 0) o wr) (fun _ wr => u.size - wr.iterPos w.heap.size)
  case atStart => exact ⟨0, 1, rfl, rfl, Nat.le_refl _, Nat.le_refl _, by simp⟩
  case round =>
    obtain ⟨pos, o', rfl, rfl, ho1, ho2, hsc⟩ := hrel
    have HSC := hide hsc
    clear hsc
    by_cases hp : pos < u.size
    · have hnx : ∀ ty, (Instr.next (.pointer (some ⟨w.heap.size, 0, none⟩)) true ty).run Try.prog (w.iter u pos) = _ := fun ty => run_next_any w u pos ty hp
      by_cases h48 : u[pos] = 48
      · have hdec : Utf8.decode u pos = (48, 1) := by rw [decode_ascii u pos hp (by rw [h48]; decide), h48]; rfl
        have hst : scanEnd (u.data.toList.drop pos) o' pos = if o' = 1 then some (pos + 1) else scanEnd (u.data.toList.drop (pos + 1)) (o' - 1) (pos + 1) := by
          rw [data_get u pos hp, h48]; simp [scanEnd]
        rw [HSC.out] at hst
        rw [hdec] at hnx
        have HST := hide hst
        clear hst hdec HSC
        by_cases h1 : o' = 1
        · subst h1
          go_wp2
          go_ret2
          refine ⟨?_, (Below.refl _ _).alloc (Nat.le_refl _) _⟩
          have e : scanEnd u.data.toList 1 0 = some (pos + 1) := by first | exact HST.out.trans (if_pos rfl) | exact HST.out.trans (if_pos trivial)
          rw [e]
          show Ending.returned _ = Ending.returned _
          simp
          omega
        · have h1' : ((o' : Int) - 1 == 0) = false := by rw [beq_eq_false_iff_ne]; omega
          go_wp2
          go_roundw
          case rel => exact ⟨pos + 1, o' - 1, rfl, by congr 1; omega, by omega, by omega, by rw [HST.out, if_neg h1]⟩
          case measure => simp; omega
      · by_cases h49 : u[pos] = 49
        · have hdec : Utf8.decode u pos = (49, 1) := by rw [decode_ascii u pos hp (by rw [h49]; decide), h49]; rfl
          have hst : scanEnd (u.data.toList.drop pos) o' pos = scanEnd (u.data.toList.drop (pos + 1)) (o' + 1) (pos + 1) := by
            rw [data_get u pos hp, h49]; simp [scanEnd]
          rw [HSC.out] at hst
          rw [hdec] at hnx
          have HST := hide hst
          clear hst hdec HSC
          have h1' : ((o' : Int) + 1 == 0) = false := by rw [beq_eq_false_iff_ne]; omega
          go_wp2
          go_roundw
          case rel => exact ⟨pos + 1, o' + 1, rfl, by simp, by omega, by omega, by rw [HST.out]⟩
          case measure => simp; omega
        · have hst : scanEnd (u.data.toList.drop pos) o' pos = none := by
            rw [data_get u pos hp]; simp [scanEnd, h48, h49]
          rw [HSC.out] at hst
          obtain ⟨rn, wd, hrw⟩ : ∃ rn wd, Utf8.decode u pos = (rn, wd) := ⟨_, _, rfl⟩
          have hrn : rn ≠ 48 ∧ rn ≠ 49 := by
            by_cases ha : (u[pos]'hp).toNat < 128
            · rw [decode_ascii u pos hp ha] at hrw
              cases hrw
              constructor
              · intro h; exact h48 (UInt8.toNat_inj.1 (by simpa using h))
              · intro h; exact h49 (UInt8.toNat_inj.1 (by simpa using h))
            · have := (decode_high u pos hp (by omega)).1
              rw [hrw] at this
              simp only at this
              omega
          rw [hrw] at hnx
          have h1' : ((rn : Int) == 48) = false := by rw [beq_eq_false_iff_ne]; omega
          have h2' : ((rn : Int) == 49) = false := by rw [beq_eq_false_iff_ne]; omega
          have HST := hide hst
          clear hst hrw HSC hrn
          go_wp2
          go_ret2
          refine ⟨?_, (Below.refl _ _).alloc (Nat.le_refl _) _⟩
          rw [HST.out]
          rfl
    · have hnx : ∀ ty, (Instr.next (.pointer (some ⟨w.heap.size, 0, none⟩)) true ty).run Try.prog (w.iter u pos) = _ := fun ty => run_next_end w u pos ty hp
      have hst : scanEnd (u.data.toList.drop pos) o' pos = none := by rw [List.drop_of_length_le (by simp at hp ⊢; omega)]; rfl
      rw [HSC.out] at hst
      have HST := hide hst
      clear hst HSC
      go_wp2
      go_ret2
      refine ⟨?_, (Below.refl _ _).alloc (Nat.le_refl _) _⟩
      rw [HST.out]
      rfl

theorem cast_beq (a b : Nat) : ((a : Int) == (b : Int)) = (true && decide (a = b)) := by rw [Bool.eq_iff_iff]; simp; omega
theorem extract_all (s : ByteArray) : s.extract 0 s.size = s := by simp

set_option maxRecDepth 100000 in
/-- tree.Valid: whether a string is a valid tree. -/
theorem tvalid_any (s : ByteArray) (w : World) (hs : s.size ≤ 140737488351232) :
    Calls Try.prog 160 #[.string s] w fun e w' => e = .returned (.bool (decide ((s.size : Int) ≤ 2000000) && (parse s.data.toList).isSome)) ∧ Below w.heap.size w w' := by
  by_cases h : (s.size : Int) ≤ 2000000
  · have hv := valid_iff s.data.toList
    have hl : s.data.toList.length = s.size := by rw [Array.length_toList]; rfl
    rw [hl] at hv
    have hend := end_any s 0 w hs (Nat.zero_le _)
    rw [extract_all] at hend
    cases hsc : scanEnd s.data.toList 1 0 with
    | none =>
      rw [hsc] at hend hv
      have hp : (parse s.data.toList).isSome = false := by
        cases h' : (parse s.data.toList).isSome with
        | false => rfl
        | true => exact absurd (hv.2 h') (by simp)
      have HEND := hide hend
      have HP := hide hp
      have hd : decide ((2000000 : Int) < (s.size : Int)) = false := decide_eq_false (by omega)
      have HH := hide h
      clear hv hend hsc hp h hl
      go_enter Try.func160, Try.ntmps160
      go_wp2_with fail
      refine HEND.out.mono ?_; rintro e w' ⟨rfl, hb⟩
      go_wp2
      go_ret
      exact ⟨by rw [HP.out]; simp, hb⟩
    | some k =>
      rw [hsc] at hend hv
      have hp : (parse s.data.toList).isSome = decide (k = s.size) := by
        cases h' : (parse s.data.toList).isSome with
        | false =>
          have : k ≠ s.size := fun e => by rw [e] at hv; rw [hv.1 rfl] at h'; cases h'
          simp [this]
        | true => have := hv.2 h'; simp at this; simp [this]
      have HEND := hide hend
      have HP := hide hp
      have hd : decide ((2000000 : Int) < (s.size : Int)) = false := decide_eq_false (by omega)
      have hk0 : (0 : Int) ≤ (k : Int) := by omega
      have HH := hide h
      clear hv hend hsc hp h hl
      go_enter Try.func160, Try.ntmps160
      go_wp2_with fail
      refine HEND.out.mono ?_; rintro e w' ⟨rfl, hb⟩
      go_wp2
      go_ret
      refine ⟨?_, hb⟩
      rw [HP.out]
      rw [decide_eq_true HH.out]
      exact congrArg (fun x => Ending.returned (Value.bool x)) (cast_beq k s.size)
  · have hd : decide ((2000000 : Int) < (s.size : Int)) = true := decide_eq_true (by omega)
    have HH := hide h
    clear h
    go_enter Try.func160, Try.ntmps160
    go_wp2
    go_ret
    exact ⟨by have := HH.out; rw [decide_eq_false (by omega)]; rfl, Below.refl _ _⟩

/-- reg: whether all the numbers of a row are registers. -/
def Ints (w : World) (g off n : Nat) (l : List Int) : Prop := l.length = n ∧ ∀ i v, l[i]? = some v → w.cell? ⟨g, off + i, none⟩ = some (.int .i64 v)
def allReg (l : List Int) : Bool := l.all fun v => decide (0 ≤ v) && decide (v < 32)
set_option maxRecDepth 100000 in
theorem reg_any (w : World) (g off n cap : Nat) (l : List Int) (h : Ints w g off n l) (hn : n ≤ 1000) :
    Calls Try.prog 170 #[.slice (some ⟨g, off, none⟩) n cap] w fun e w' => e = .returned (.bool (allReg l)) ∧ w = w' := by
  go_enter Try.func170, Try.ntmps170
  go_wp2
  go_loop [7] (fun i => ∃ k : Nat, k ≤ n ∧ i = .int .i64 k ∧ allReg (l.take k) = true) (fun i => n - (intOf i).toNat)
  case atStart => exact ⟨0, Nat.zero_le _, rfl, rfl⟩
  case round =>
    obtain ⟨k, hk, rfl, hall⟩ := hrel
    have HALL := hide hall
    have H := hide h
    clear hall
    by_cases hlt : k < n
    · obtain ⟨v, hv⟩ : ∃ v, l[k]? = some v := ⟨_, List.getElem?_eq_getElem (by rw [h.1]; exact hlt)⟩
      have hc := h.2 k v hv
      have hstep : allReg (l.take (k + 1)) = (allReg (l.take k) && (decide (0 ≤ v) && decide (v < 32))) := by
        rw [List.take_add_one, hv]; simp [allReg]
      have hsplit : allReg l = (allReg (l.take (k + 1)) && allReg (l.drop (k + 1))) := by
        conv => lhs; rw [← List.take_append_drop (k + 1) l]
        unfold allReg; rw [List.all_append]
      have HS := hide hstep
      have HSP := hide hsplit
      clear h hv hstep hsplit
      by_cases h0 : 0 ≤ v
      · by_cases h1 : v < 32
        · go_wp2
          go_round
          case rel => exact ⟨k + 1, by omega, by go_num, by rw [HS.out, HALL.out]; simp [h0, h1]⟩
          case measure => simp [intOf]; omega
        · have hf : allReg l = false := by rw [HSP.out, HS.out]; simp [h1]
          have HF := hide hf
          clear hf
          go_wp2
          go_ret
          exact ⟨by rw [HF.out]; rfl, rfl⟩
      · have hf : allReg l = false := by rw [HSP.out, HS.out]; simp [h0]
        have HF := hide hf
        clear hf
        go_wp2
        go_ret
        exact ⟨by rw [HF.out]; rfl, rfl⟩
    · have hkn : k = n := by omega
      have hl : allReg l = true := by
        have e : l.take k = l := by rw [hkn, ← h.1, List.take_length]
        have := HALL.out
        rwa [e] at this
      have HL := hide hl
      clear h hl hkn
      go_wp2
      go_ret
      exact ⟨by rw [HL.out]; rfl, rfl⟩
end Go.Proofs.Ytgbieakahgkkpaa
