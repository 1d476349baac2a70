/- The jumps get their distances: whatever the order. -/
import Derived.Test.YtgbieakahgkkpaaAsmE
import Derived.Laws.OwnMore
namespace Go.Proofs.Ytgbieakahgkkpaa
open Go.RowKit Go.Maps
attribute [local go_sem ↓] Go.wp_at_zero Go.wp_at_succ

/-- The program as it stands where some jumps are still to come. -/
def Asm.part (a : Asm) (left : Lit → Bool) : List Ins := a.p.mapIdx fun i x => match a.from_ i with
  | some n => if left (.int .i64 i) = true then x else { x with b := a.at_ n - i }
  | none => x
def Asm.done (a : Asm) : List Ins := a.part fun _ => false

theorem part_length (a : Asm) (left : Lit → Bool) : (a.part left).length = a.p.length := by simp [Asm.part]
theorem part_start {a : Asm} {D : DataW Unit} (h : FromIs D a.from_) : a.part (Maps.has D) = a.p := by
  apply List.ext_getElem?
  intro i
  simp only [Asm.part, List.getElem?_mapIdx]
  cases hx : a.p[i]? with
  | none => rfl
  | some x =>
    simp only [Option.map_some]
    cases hf : a.from_ i with
    | none => rfl
    | some n => simp only; rw [if_pos (by rw [h.2.1, hf]; rfl)]
theorem part_end {a : Asm} {left : Lit → Bool} (h : ∀ kl, left kl = false) : a.part left = a.done := by
  have : left = fun _ => false := funext h
  rw [this]; rfl
theorem part_step {a : Asm} {left : Lit → Bool} {x : Nat} {n : ByteArray} {y : Ins} (hf : a.from_ x = some n) (hy : (a.part left)[x]? = some y) :
    a.part (fun z => left z && !z.sameKey (.int .i64 x)) = (a.part left).set x { y with b := a.at_ n - x } := by
  apply List.ext_getElem?
  intro i
  rw [List.getElem?_set]
  simp only [part_length]
  have hi0 : x < a.p.length := by
    have := (List.getElem?_eq_some_iff.1 hy).1
    rwa [part_length] at this
  by_cases hi : x = i
  · subst hi
    rw [if_pos rfl, if_pos hi0]
    simp only [Asm.part, List.getElem?_mapIdx, hf] at hy ⊢
    cases hx : a.p[x]? with
    | none => rw [hx] at hy; cases hy
    | some z =>
      rw [hx] at hy
      simp only [Option.map_some, Option.some.injEq] at hy ⊢
      have : (Lit.int IntKind.i64 (x : Int)).sameKey (.int .i64 x) = true := by simp [Lit.sameKey]
      simp only [this, Bool.not_true, Bool.and_false, Bool.false_eq_true, if_false]
      split at hy <;> (subst hy; rfl)
  · rw [if_neg hi]
    simp only [Asm.part, List.getElem?_mapIdx]
    cases hx : a.p[i]? with
    | none => rfl
    | some z =>
      simp only [Option.map_some, Option.some.injEq]
      cases hfi : a.from_ i with
      | none => rfl
      | some m =>
        simp only
        have : (Lit.int IntKind.i64 (i : Int)).sameKey (.int .i64 x) = false := Maps.sameKey_ne (by simp; omega)
        simp [this]

theorem cells_set : ∀ (q : List Ins) (x : Nat) (y : Ins) (v : Int), q[x]? = some y → progCells (q.set x { y with b := v }) = (progCells q).set (x * 5 + 2) (.int .i64 v)
  | [], x, y, v, h => by simp at h
  | z :: q, 0, y, v, h => by
    simp at h; subst h
    simp [progCells, Ins.cells]
  | z :: q, x + 1, y, v, h => by
    have ih := cells_set q x y v (by simpa using h)
    simp only [List.set_cons_succ, progCells, List.flatMap_cons] at ih ⊢
    rw [ih, List.set_append_right _ _ (by simp [Ins.cells]; omega)]
    have e : (x + 1) * 5 + 2 - (Ins.cells z).length = x * 5 + 2 := by simp only [Ins.cells, List.length_cons, List.length_nil]; omega
    rw [e]

/-- What Done needs of what was written. -/
def Asm.ok (a : Asm) : Prop := a.p.length ≤ 1000 ∧ (∀ i n, a.from_ i = some n → 0 ≤ i ∧ i < a.p.length ∧ n.size ≤ 1000 ∧ 0 ≤ a.at_ n ∧ a.at_ n ≤ 1000)

theorem plainElem_string_inv' {v : Value} {y : DataW Unit × List MemPlace} (h : plainElem Try.prog 9 v = some y) : ∃ s : ByteArray, v = .string s ∧ y.1 = .lit (.string s.data.toList) := by
  cases v <;> simp only [plainElem, Try.underlying9] at h <;> first | (cases h; done) | skip
  rename_i s
  split at h
  · cases h; exact ⟨s, rfl, rfl⟩
  · cases h

/-- The step of a range over a map from integers to strings. -/
theorem wpList_next_is {w : World} {ops : Array Oper} {rest : List Oper} {o : Oper} {a : Act} {Q : Exit → Act → World → Prop} (hg : o.guard = none) (it : Operand) (hop : o.op = Op.next it false)
    (b r n : Nat) (D : DataW Unit) (left : Lit → Bool) (cnt : Nat) (hit : a.eval it = .pointer (some ⟨r, 0, none⟩)) (h : w.ranges Try.prog 3 (plainElem Try.prog 9) b r n D left cnt)
    (hDone : cnt = 0 → (∀ kl, left kl = false) → wpList Try.prog ops Q rest (a.put o.dst (.tuple #[.bool false])) w)
    (hMore : ∀ (x : Int) (c : ByteArray) (w' : World) (cnt' : Nat), (Lit.int .i64 x).wf = true → left (.int .i64 x) = true → (∀ zd, D.atKey (.int .i64 x) zd = .lit (.string c.data.toList)) → w'.ranges Try.prog 3 (plainElem Try.prog 9) b r n D (fun z => left z && !z.sameKey (.int .i64 x)) cnt' → cnt' < cnt →
      w.grownBy w' (some r) → w'.heap.size = w.heap.size → (Instr.entry (.pointer (some ⟨r, 0, none⟩))).run Try.prog w' = .ok (.tuple #[.int .i64 x, .string c]) w' → wpList Try.prog ops Q rest (a.put o.dst (.tuple #[.bool true, .int .i64 x, .string c])) w') :
    wpList Try.prog ops Q (o :: rest) a w :=
  wpList_next_ranges w hg it hop 3 law3 (plainElem Try.prog 9) (Value.int .i64) Value.string (fun key kl hkey => by obtain ⟨x, rfl, _⟩ := Maps.keyOf_int_inv Try.underlying3 hkey; exact ⟨x, rfl⟩) (fun v y hv => by obtain ⟨s, rfl, _⟩ := plainElem_string_inv' hv; exact ⟨s, rfl⟩) b r n D left cnt hit h hDone
    (fun x c kl y w' cnt' hkey hlk hv hat hrg hlt hgr hsz hen => by
      obtain ⟨x', ex, rfl, hwx⟩ := Maps.keyOf_int_inv Try.underlying3 hkey
      cases ex
      obtain ⟨s, es, hy⟩ := plainElem_string_inv' hv
      cases es
      rw [hy] at hat
      exact hMore x c w' cnt' hwx hlk hat hrg hlt hgr hsz hen)

theorem ranges_drew {w : World} {k : TypeId} {R : Value → Option (DataW Unit × List MemPlace)} {b r n cnt : Nat} {D : DataW Unit} {left : Lit → Bool} (h : w.ranges Try.prog k R b r n D left cnt) : w.drew.ranges Try.prog k R b r n D left cnt := h

set_option maxHeartbeats 2000000 in
set_option maxRecDepth 100000 in
theorem done_any (w : World) (B b : Nat) (a : Asm) (h : WR w B b a) (hok : a.ok) : Calls Try.prog 95 #[.pointer (some ⟨b, 0, none⟩)] w fun e w' => ∃ A cap, e = .returned (.slice A a.p.length cap) ∧ w'.ownsRow B 41 5 (.slice A a.p.length cap) a.p.length (progCells a.done) ∧ Below B w w' := by
  obtain ⟨bm, bf, N, v, Dm, Df, hb, hm, ha, hf, hfr, hN, ho, h1, h2, h3, h4⟩ := h
  obtain ⟨A, cap, rfl, hcap⟩ := own_shape ho
  have hB : B ≤ w.heap.size := by have := hb.lt; omega
  have c1 : w.cell? ⟨b, 1, none⟩ = some (.map (some bf)) := by rw [hb.cell]; rfl
  have HN := hide hN
  have HOK := hide hok
  have HA := hide ha
  have HFR := hide hfr
  have HM := hide hm
  clear hN hok ha hfr
  go_enter Try.func95, Try.ntmps95
  go_wp2_with (first | (at_range; refine wpList_range_own _ rfl _ 144 rfl 3 9 law3 Try.underlying144 _ bf a.c Df rfl hf ?_; intro w0 hrg0 hg0 hs0))
  go_frame
  have hb0 : Blk w0 b 148 #[.map (some bm), .map (some bf), .slice A N cap] := hb.grown hg0 (by simp)
  have hm0 := HM.out.kept hg0 (by simp)
  have ho0 : w0.ownsRow B 41 5 (.slice A N cap) N (progCells (a.part (Maps.has Df))) := by
    rw [part_start HFR.out]
    refine ho.kept hg0 ?_
    cases hv : (Value.slice A N cap).ownBlock with
    | none => exact .inl rfl
    | some k => exact .inr (by simp)
  have hB0 : Below B w w0 := (Below.refl B w).grown hg0 hB (fun k hk => by cases hk)
  go_loopw [3, 4] (fun _ _ wr => ∃ left cnt, wr.ranges Try.prog 3 (plainElem Try.prog 9) bf w.heap.size a.c Df left cnt ∧ Blk wr b 148 #[.map (some bm), .map (some bf), .slice A N cap] ∧ wr.ownsMap Try.prog 9 (plainElem Try.prog 3) bm a.c Dm ∧ wr.ownsRow B 41 5 (.slice A N cap) N (progCells (a.part left)) ∧ Below B w wr) (fun _ _ wr => wr.rangeLeft bf w.heap.size)
  case atStart => exact ⟨_, _, hrg0, hb0, hm0, ho0, hB0⟩
  case round =>
    obtain ⟨left, cnt, hrg, hbr, hmr, hor, hBr⟩ := hrel
    go_wp2_with (first | (at_next; refine wpList_next_is rfl _ rfl bf w.heap.size a.c Df left cnt rfl hrg ?_ ?_))
    · intro hc0 hl0
      have c2 : wr.cell? ⟨b, 2, none⟩ = some (.slice A N cap) := by rw [hbr.cell]; rfl
      have HL0 := hide hl0
      clear hl0 hc0
      go_wp2
      go_ret
      refine ⟨A, cap, by rw [← HN.out]; rfl, ?_, hBr⟩
      rw [← part_end HL0.out, ← HN.out]; exact hor
    · intro x c w1 cnt1 hwx hlk hat hrg1 hlt hg1 hs1 hen
      have hhas := Maps.has_true_of_atKey hat
      rw [HFR.out.2.1] at hhas
      obtain ⟨n, hn⟩ := Option.isSome_iff_exists.1 hhas
      have hsn : c = n := by
        have h1 := HFR.out.2.2 _ _ hn (.lit (.int .i64 0))
        rw [hat] at h1
        exact bytes_inj (by simpa using h1)
      subst hsn
      obtain ⟨x0, x1, z1, p0, p1⟩ := HOK.out.2 _ _ hn
      obtain ⟨k, rfl⟩ : ∃ k : Nat, x = k := ⟨x.toNat, by omega⟩
      have hb1 : Blk w1 b 148 #[.map (some bm), .map (some bf), .slice A N cap] := hbr.grown hg1 (fun e => by cases e; exact absurd hb.lt (by omega))
      have hm1 := hmr.kept hg1 (fun e => by have := hm.lt; cases e; omega)
      have ho1 : w1.ownsRow B 41 5 (.slice A N cap) N (progCells (a.part left)) := by
        refine hor.kept hg1 ?_
        cases hv : (Value.slice A N cap).ownBlock with
        | none => exact .inl rfl
        | some j => exact .inr (fun e => by have := (ho.lt j hv).2; cases e; omega)
      obtain ⟨g, rfl, hgl, hgB⟩ := own_form ho1 (by have := HN.out; omega)
      obtain ⟨cc, hrun, hatc, hwc⟩ := hm1.drew.lookup_int law9 Try.underlying143 Try.underlying3 (zero3 _) (Go.WideMaps.keyOf_string_mk (P := Try.prog) (k := 9) Try.underlying9 (s := c) (by unfold maxLen; omega))
      have hcc : cc = a.at_ c := by
        have h1 := HA.out.2 c
        rw [h1] at hatc
        simpa using hatc.symm
      have hkN : k < N := by have := HN.out; omega
      have c0' : w1.cell? ⟨b, 0, none⟩ = some (.map (some bm)) := by rw [hb1.cell]; rfl
      have c2' : w1.cell? ⟨b, 2, none⟩ = some (.slice (some ⟨g, 0, none⟩) N cap) := by rw [hb1.cell]; rfl
      obtain ⟨y, hy⟩ : ∃ y, (a.part left)[k]? = some y := ⟨_, List.getElem?_eq_getElem (by rw [part_length]; omega)⟩
      have hcell : w1.cell? ⟨g, k * 5 + 2, none⟩ = some (.int .i64 y.b) := by
        rw [ho1.cellAt _ (by omega)]
        exact progCells_get _ _ _ _ _ hy rfl
      have hfz := ho1.frozenAt (k * 5 + 2)
      have k0 : (0 : Int) ≤ (k : Int) := by omega
      have k1 : (k : Int) < (N : Int) := by omega
      have q0 : (0 : Int) ≤ cc := by rw [hcc]; exact p0
      have q1 : cc ≤ 1000 := by rw [hcc]; exact p1
      have HCC := hide hcc
      have HY := hide hy
      have HNN := hide hn
      have HLK := hide hlk
      clear hcc hy hn hlk hatc hat hhas
      go_wp2_with fail
      go_region
      all_goals (try go_wp2)
      all_goals go_roundw
      case rel =>
        have ew : wrap64 (cc - (k : Int)) = cc - k := by have := HOK.out.1; unfold wrap64; omega
        rw [ew]
        obtain ⟨ho2, hg2⟩ := ho1.stored (k * 5 + 2) (.int .i64 (cc - k))
        obtain ⟨cs, hcs⟩ := own_setCell_block ho1
        have hgr : g < w.heap.size := (ho.lt g rfl).2
        have hrg2 := hrg1.kept hg2 (fun e => map_ne hrg1.owns hcs (by cases e; rfl)) (fun e => by cases e; omega)
        have hb2 := hb1.grown hg2 (fun e => by cases e; exact absurd rfl (hb1.ne_ hcs (by decide)))
        have hm2 := hm1.kept hg2 (fun e => map_ne hm1 hcs (by cases e; rfl))
        refine ⟨_, cnt1, ranges_drew hrg2, hb2.drew, hm2.drew, ?_, ?_⟩
        · rw [part_step HNN.out HY.out, cells_set _ _ _ _ HY.out, ← HCC.out]; exact ho2
        · exact (((hBr.grown hg1 (by have := hBr.size; omega) (fun j hj => by cases hj; exact hB))).grown hg2 (by have := hBr.size; omega) (fun j hj => by cases hj; exact hgB)).drew
      case measure =>
        have ew : wrap64 (cc - (k : Int)) = cc - k := by have := HOK.out.1; unfold wrap64; omega
        rw [ew]
        obtain ⟨ho2, hg2⟩ := ho1.stored (k * 5 + 2) (.int .i64 (cc - k))
        obtain ⟨cs, hcs⟩ := own_setCell_block ho1
        have hgr : g < w.heap.size := (ho.lt g rfl).2
        have hrg2 := hrg1.kept hg2 (fun e => map_ne hrg1.owns hcs (by cases e; rfl)) (fun e => by cases e; omega)
        rw [hrg.left_eq]
        have := (ranges_drew hrg2).left_eq
        show World.rangeLeft _ _ _ < _
        exact Nat.lt_of_le_of_lt (Nat.le_of_eq this) hlt
end Go.Proofs.Ytgbieakahgkkpaa
