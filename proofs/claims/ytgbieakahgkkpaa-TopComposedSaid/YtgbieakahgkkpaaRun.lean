/- What the loops of a run hold in memory: the trees of a program, the registers, the state. No walk here. -/
import Derived.Test.YtgbieakahgkkpaaPMem
namespace Go.Proofs.Ytgbieakahgkkpaa
open Go.RowKit

/-- The tree that an instruction sets. -/
def setT : I → T
  | .set _ t => t
  | _ => .nil

theorem encP_get {q : List I} {i : Nat} {y : Ins} (h : (encP q)[i]? = some y) : ∃ z, q[i]? = some z ∧ y = z.enc := by
  simp only [encP, List.getElem?_map, Option.map_eq_some_iff] at h
  obtain ⟨z, hz, rfl⟩ := h
  exact ⟨z, hz, rfl⟩
theorem charsOf_le {q : List I} {i : Nat} {z : I} (h : q[i]? = some z) : z.chars ≤ charsOf q := by
  have hm := List.mem_of_getElem? h
  unfold charsOf
  clear h
  induction q with
  | nil => cases hm
  | cons y q ih =>
    simp only [List.map_cons, List.sum_cons]
    rcases List.mem_cons.1 hm with rfl | hm
    · omega
    · have := ih hm; omega

theorem madeCells_pointers (n : Nat) : madeCells (Value.pointer none).cells n = (ptrs (List.replicate n none)).toArray := by
  apply Array.ext
  · simp [madeCells, ptrs]
  · intro i h1 h2
    simp [madeCells, ptrs, Value.cells, Nat.mod_one]

/-- The head of a round of the loop that reads the trees of a program. (ty: the nodes' type; rt: the registers' array; el: a pointer's) -/
def SetRel (ty rt el : TypeId) (q : List I) (n : Nat) (w : World) (i : Value) (wr : World) : Prop :=
  ∃ (k : Nat) (ps : List (Option Addr)), k ≤ n ∧ i = .int .i64 k ∧ Reps ty wr ps ((q.take k).map setT ++ List.replicate (n - k) .nil) ∧ ps.length = n ∧
    Blk wr w.heap.size rt (ptrs (List.replicate 32 none)).toArray ∧ Blk wr (w.heap.size + 1) el (ptrs ps).toArray ∧ Below w.heap.size w wr

theorem Reps.nils (ty : TypeId) (w : World) : ∀ n, Reps ty w (List.replicate n none) (List.replicate n .nil)
  | 0 => .nil
  | n + 1 => .cons rfl (Reps.nils ty w n)

section
variable {ty rt el : TypeId} {q : List I} {n k : Nat} {w wr w1 : World} {ps : List (Option Addr)} {z : I}
theorem SetRel.start (_hn : n = q.length) : SetRel ty rt el q n w (.int .i64 0) ((w.alloc (.cells (ptrs (List.replicate 32 none)).toArray rt)).alloc (.cells (ptrs (List.replicate n none)).toArray el)) := by
  refine ⟨0, List.replicate n none, Nat.zero_le _, rfl, by simpa using Reps.nils ty _ n, by simp, ?_, ?_, ?_⟩
  · exact (Blk.new w rt _).alloc _
  · have := Blk.new (w.alloc (.cells (ptrs (List.replicate 32 none)).toArray rt)) el (ptrs (List.replicate n none)).toArray
    simpa using this
  · exact ((Below.refl _ _).alloc (Nat.le_refl _) _).alloc (by simp) _

theorem set_at (hz : q[k]? = some z) (hlt : k < n) : ((q.take k).map setT ++ List.replicate (n - k) T.nil).set k (setT z) = (q.take (k + 1)).map setT ++ List.replicate (n - (k + 1)) .nil := by
  have hk : k < q.length := (List.getElem?_eq_some_iff.1 hz).1
  obtain ⟨m, hm⟩ : ∃ m, n - k = m + 1 := ⟨n - k - 1, by omega⟩
  have hl : ((q.take k).map setT).length = k := by simp; omega
  rw [List.set_append_right _ _ (by omega), hl, Nat.sub_self, hm, List.take_add_one, hz]
  have : n - (k + 1) = m := by omega
  rw [this]
  simp [List.replicate_succ]
theorem SetRel.skip (hlt : k < n) (hr : Reps ty wr ps ((q.take k).map setT ++ List.replicate (n - k) .nil)) (hl : ps.length = n)
    (hR : Blk wr w.heap.size rt (ptrs (List.replicate 32 none)).toArray) (hG : Blk wr (w.heap.size + 1) el (ptrs ps).toArray) (hb : Below w.heap.size w wr) (hz : q[k]? = some z) (hn : setT z = .nil) :
    SetRel ty rt el q n w (.int .i64 ((k : Int) + 1)) wr := by
  refine ⟨k + 1, ps, by omega, by simp, ?_, hl, hR, hG, hb⟩
  rw [← set_at hz hlt, hn]
  have hk : k < q.length := (List.getElem?_eq_some_iff.1 hz).1
  have e : ((q.take k).map setT ++ List.replicate (n - k) T.nil)[k]? = some .nil := by
    rw [List.getElem?_append_right (by rw [List.length_map, List.length_take]; omega), List.getElem?_replicate, if_pos (by rw [List.length_map, List.length_take]; omega)]
  have : ((q.take k).map setT ++ List.replicate (n - k) T.nil).set k .nil = (q.take k).map setT ++ List.replicate (n - k) T.nil := by
    apply List.ext_getElem?
    intro i
    rw [List.getElem?_set]
    split
    · rename_i h; subst h; rw [e]; split
      · rfl
      · rename_i h; rw [List.getElem?_eq_none (by omega)] at e; cases e
    · rfl
  rw [this]; exact hr
theorem SetRel.next {t : T} {pt : Option Addr} (hlt : k < n) (hl : ps.length = n) (hr : Reps ty wr ps ((q.take k).map setT ++ List.replicate (n - k) .nil))
    (hR : Blk wr w.heap.size rt (ptrs (List.replicate 32 none)).toArray) (hG : Blk wr (w.heap.size + 1) el (ptrs ps).toArray) (hb : Below w.heap.size w wr) (h1 : ty ≠ el) (hz : q[k]? = some z) (hn : setT z = t)
    (hb1 : Below wr.heap.size wr w1) (hp : Rep ty w1 pt t) : SetRel ty rt el q n w (.int .i64 ((k : Int) + 1)) (w1.setCell ⟨w.heap.size + 1, k, none⟩ (.pointer pt)) := by
  have hG1 := hG.below hb1 hG.lt
  have hR1 := hR.below hb1 hR.lt
  have hk : NK ty w1 (w1.setCell ⟨w.heap.size + 1, k, none⟩ (.pointer pt)) := (NK.refl ty w1).set_ hG1 h1 k none _
  refine ⟨k + 1, ps.set k pt, by omega, by simp, ?_, by simp [hl], hR1.far (p := ⟨w.heap.size + 1, k, none⟩) (by simp) _, ?_, ?_⟩
  · rw [← set_at hz hlt, hn]
    exact ((hr.kept ((NK.refl ty wr).below hb1)).set_ hp k).kept hk
  · have := hG1.set_ k (.pointer pt)
    simpa [ptrs, List.map_set] using this
  · exact (hb.trans (hb1.mono hb.size)).setCell (p := ⟨w.heap.size + 1, k, none⟩) (by simp) _
theorem SetRel.done (hn : n = q.length) (hr : Reps ty wr ps ((q.take n).map setT ++ List.replicate (n - n) .nil)) : Reps ty wr ps (q.map setT) := by
  rw [hn, List.take_length, Nat.sub_self] at hr
  simpa using hr
end

/-- What a run hands back. -/
def FollowPost (ty : TypeId) (r : Out × Nat) (w : World) (e : Ending) (w' : World) : Prop :=
  ∃ p k how, e = .returned (.tuple #[.pointer p, .int .i64 k, .int .i64 how, .int .i64 (r.2 : Int)]) ∧ Below w.heap.size w w' ∧
    match r.1 with
    | .ended y j => how = 0 ∧ k = j ∧ Rep ty w' p y
    | .going j => how = 1 ∧ k = j ∧ p = none
    | .large j => how = 2 ∧ k = j ∧ p = none

theorem int_eq {a b : Int} (h : a = b) : Value.int .i64 a = Value.int .i64 b := by rw [h]
def regList (r : Nat → T) : List T := (List.range 32).map r

/-- The head of a round of a run. -/
def FolRel (ty rt el : TypeId) (q : List I) (n fuel : Nat) (ss : List (Option Addr)) (res : Out × Nat) (w : World) (pc all most k : Value) (wr : World) : Prop :=
  ∃ (s : St) (j m : Nat) (rs : List (Option Addr)), pc = .int .i64 s.pc ∧ all = .int .i64 (sumR s.r) ∧ most = .int .i64 m ∧ k = .int .i64 j ∧ j ≤ fuel ∧ s.pc ≤ n ∧ (∀ i, (s.r i).size ≤ 100000000) ∧ m ≤ 3200000000 ∧
    rs.length = 32 ∧ Reps ty wr rs (regList s.r) ∧ Blk wr w.heap.size rt (ptrs rs).toArray ∧ Reps ty wr ss (q.map setT) ∧ Blk wr (w.heap.size + 1) el (ptrs ss).toArray ∧ Below w.heap.size w wr ∧
    follow q (fuel - j) j m s = res

theorem sumR_le {r : Nat → T} (h : ∀ i, (r i).size ≤ 100000000) : sumR r ≤ 3200000000 := by
  unfold sumR
  have : ∀ l : List Nat, (l.map fun i => (r i).size).sum ≤ l.length * 100000000 := by
    intro l
    induction l with
    | nil => simp
    | cons i l ih => have := h i; simp; omega
  have h1 := this (List.range 32)
  simp only [List.length_range] at h1
  omega
theorem sumR_upd {r : Nat → T} {a : Nat} (t : T) (ha : a < 32) : sumR (upd r a t) + (r a).size = sumR r + t.size := by
  unfold sumR
  have : ∀ l : List Nat, l.Nodup → a ∈ l → (l.map fun i => (upd r a t i).size).sum + (r a).size = (l.map fun i => (r i).size).sum + t.size := by
    intro l
    induction l with
    | nil => intro _ h; cases h
    | cons i l ih =>
      intro hd hm
      obtain ⟨hni, hd'⟩ := List.nodup_cons.1 hd
      simp only [List.map_cons, List.sum_cons]
      by_cases hi : i = a
      · subst hi
        have e : (l.map fun j => (upd r i t j).size) = l.map fun j => (r j).size := by
          apply List.map_congr_left
          intro j hj
          have : j ≠ i := fun e => hni (e ▸ hj)
          simp [upd, this]
        rw [e]; simp [upd]; omega
      · have := ih hd' (by rcases List.mem_cons.1 hm with h | h; exact absurd h.symm hi; exact h)
        simp only [upd, hi, if_false] at this ⊢
        omega
  exact this _ List.nodup_range (by simpa using ha)
theorem regList_get {r : Nat → T} {a : Nat} (ha : a < 32) : (regList r)[a]? = some (r a) := by simp [regList, ha]
theorem regList_upd {r : Nat → T} {a : Nat} (t : T) : regList (upd r a t) = (regList r).set a t := by
  apply List.ext_getElem?
  intro i
  rw [List.getElem?_set]
  simp only [regList, List.getElem?_map, List.length_map, List.length_range]
  by_cases hi : i < 32
  · by_cases hia : a = i
    · subst hia; simp [hi, upd]
    · simp [hi, hia, upd, Ne.symm hia]
  · by_cases hia : a = i
    · subst hia; simp [hi]
    · simp [hi, hia]

section
variable {ty rt el : TypeId} {q : List I} {n fuel : Nat} {ss rs : List (Option Addr)} {res : Out × Nat} {w wr w1 : World} {s : St} {j m : Nat}
/-- A register's cell, and what it stands for. -/
theorem Fol.reg_ {a : Nat} (ha : a < 32) (hr : Reps ty wr rs (regList s.r)) (hR : Blk wr w.heap.size rt (ptrs rs).toArray) :
    ∃ p, wr.cell? ⟨w.heap.size, a, none⟩ = some (.pointer p) ∧ Rep ty wr p (s.r a) := by
  obtain ⟨p, hp, hrep⟩ := hr.get a _ (regList_get ha)
  exact ⟨p, by rw [hR.cell]; simp [ptrs, hp], hrep⟩
theorem Fol.set_ {i : Nat} {z : I} (hz : q[i]? = some z) (hr : Reps ty wr ss (q.map setT)) (hG : Blk wr (w.heap.size + 1) el (ptrs ss).toArray) :
    ∃ p, wr.cell? ⟨w.heap.size + 1, i, none⟩ = some (.pointer p) ∧ Rep ty wr p (setT z) := by
  obtain ⟨p, hp, hrep⟩ := hr.get i (setT z) (by simp [hz])
  exact ⟨p, by rw [hG.cell]; simp [ptrs, hp], hrep⟩
/-- A step that writes register a. -/
theorem FolRel.next {s' : St} {a : Nat} {t : T} {pt : Option Addr} (ha : a < 32) (hj : j < fuel) (hb0 : ∀ i, (s.r i).size ≤ 100000000) (ht : t.size ≤ 100000000) (hrl : rs.length = 32)
    (hr : Reps ty wr rs (regList s.r)) (hR : Blk wr w.heap.size rt (ptrs rs).toArray) (hs : Reps ty wr ss (q.map setT)) (hG : Blk wr (w.heap.size + 1) el (ptrs ss).toArray) (hb : Below w.heap.size w wr)
    (h1 : ty ≠ rt) (hk : Below wr.heap.size wr w1) (hp : Rep ty w1 pt t)
    (hpc : s.pc ≠ q.length) (hst : step q s = some s') (hs' : s'.r = upd s.r a t) (hpc' : s'.pc ≤ n) (hf : follow q (fuel - j) j m s = res) (hm : m ≤ 3200000000)
    {pc' all' most' : Int} (e1 : pc' = s'.pc) (e2 : all' = sumR s.r + (t.size - (s.r a).size)) (e3 : most' = max (m : Int) all') :
    FolRel ty rt el q n fuel ss res w (.int .i64 pc') (.int .i64 all') (.int .i64 most') (.int .i64 ((j : Int) + 1)) (w1.setCell ⟨w.heap.size, a, none⟩ (.pointer pt)) := by
  have hR1 := hR.below hk hR.lt
  have hG1 := hG.below hk hG.lt
  have hnk : NK ty wr w1 := (NK.refl ty wr).below hk
  have hk2 : NK ty w1 (w1.setCell ⟨w.heap.size, a, none⟩ (.pointer pt)) := (NK.refl ty w1).set_ hR1 h1 a none _
  have hsum := sumR_upd (r := s.r) t ha
  have hb' : ∀ i, (s'.r i).size ≤ 100000000 := by
    intro i; rw [hs']; unfold upd; split
    · exact ht
    · exact hb0 i
  refine ⟨s', j + 1, max m (sumR s'.r), rs.set a pt, by rw [e1], ?_, ?_, by simp, by omega, hpc', hb', ?_, by simp [hrl], ?_, ?_, ?_, ?_, ?_, ?_⟩
  · rw [e2, hs']; exact int_eq (by omega)
  · rw [e3, e2, hs']; exact int_eq (by omega)
  · have := sumR_le hb'; omega
  · rw [hs', regList_upd]
    exact ((hr.kept hnk).set_ hp a).kept hk2
  · have := hR1.set_ a (.pointer pt)
    simpa [ptrs, List.map_set] using this
  · exact (hs.kept hnk).kept hk2
  · exact hG1.far (p := ⟨w.heap.size, a, none⟩) (by simp) _
  · exact (hb.trans (hk.mono hb.size)).setCell (p := ⟨w.heap.size, a, none⟩) (by simp) _
  · rw [← hf]
    obtain ⟨f, hf'⟩ : ∃ f, fuel - j = f + 1 := ⟨fuel - j - 1, by omega⟩
    have : fuel - (j + 1) = f := by omega
    rw [this, hf']
    conv => rhs; unfold follow
    rw [if_neg hpc, hst]
theorem sumR_first (x : T) : sumR (first x).r = x.size + 31 := by
  have e : (first x).r = upd (fun _ => T.nil) 0 x := by funext i; simp [first, upd]
  have h0 : sumR (fun _ => T.nil) = 32 := by rfl
  have := sumR_upd (r := fun _ => T.nil) (a := 0) x (by omega)
  rw [e]; simp [T.size] at this; omega
theorem FolRel.start {x : T} {p : Option Addr} {ps : List (Option Addr)} (hx : Rep ty w p x) (hxs : x.size ≤ 100000000)
    (hR : Blk wr w.heap.size rt (ptrs (List.replicate 32 none)).toArray) (hs : Reps ty wr ps (q.map setT)) (hG : Blk wr (w.heap.size + 1) el (ptrs ps).toArray) (hb : Below w.heap.size w wr) (h1 : ty ≠ rt) :
    FolRel ty rt el q n fuel ps (follow q fuel 0 (sumR (first x).r) (first x)) w (.int .i64 0) (.int .i64 ((x.size : Int) + 32 - 1)) (.int .i64 ((x.size : Int) + 32 - 1)) (.int .i64 0) (wr.setCell ⟨w.heap.size, 0, none⟩ (.pointer p)) := by
  have hk : NK ty wr (wr.setCell ⟨w.heap.size, 0, none⟩ (.pointer p)) := (NK.refl ty wr).set_ hR h1 0 none _
  have hsz := sumR_first x
  refine ⟨first x, 0, sumR (first x).r, (List.replicate 32 none).set 0 p, rfl, int_eq (by rw [hsz]; omega), int_eq (by rw [hsz]; omega), rfl, Nat.zero_le _, Nat.zero_le _, ?_, by omega, by simp, ?_, ?_, ?_, ?_, ?_, rfl⟩
  · intro i; simp only [first]; split
    · exact hxs
    · simp [T.size]
  · have e : regList (first x).r = (List.replicate 32 T.nil).set 0 x := by
      have e1 : (first x).r = upd (fun _ => T.nil) 0 x := by funext i; simp [first, upd]
      rw [e1, regList_upd]
      congr 1
    rw [e]
    exact ((Reps.nils ty wr 32).set_ (hx.kept ((NK.refl ty w).below hb)) 0).kept hk
  · have := hR.set_ 0 (.pointer p)
    simpa [ptrs, List.map_set] using this
  · exact hs.kept hk
  · exact hG.far (p := ⟨w.heap.size, 0, none⟩) (by simp) _
  · exact hb.setCell (p := ⟨w.heap.size, 0, none⟩) (Nat.le_refl _) _
theorem Fol.ended (hpc : s.pc = q.length) (hf : follow q (fuel - j) j m s = res) : res = (.ended (s.r 0) j, m) := by
  rw [← hf]; unfold follow; rw [if_pos hpc]
theorem Fol.going (hpc : s.pc ≠ q.length) (hj : j = fuel) (hf : follow q (fuel - j) j m s = res) : res = (.going j, m) := by
  rw [← hf, hj, Nat.sub_self]; unfold follow; rw [if_neg hpc]
theorem Fol.large (hpc : s.pc ≠ q.length) (hj : j < fuel) (hst : step q s = none) (hf : follow q (fuel - j) j m s = res) : res = (.large j, MaxT) := by
  obtain ⟨f, hf'⟩ : ∃ f, fuel - j = f + 1 := ⟨fuel - j - 1, by omega⟩
  rw [← hf, hf']; unfold follow; rw [if_neg hpc, hst]
end

end Go.Proofs.Ytgbieakahgkkpaa
