import Derived.Test.YtgbieakahgkkpaaRows
import Derived.Test.YtgbieakahgkkpaaPMem
import Derived.Carry
import Derived.Deep.Slices
import Derived.Deep.Fields
import Derived.ChangeSame
import Derived.WalkKit
import Derived.ProofKit
import Derived.OpenShut
import Derived.JoinedCond
namespace Go.Proofs.Ytgbieakahgkkpaa
open Go.ChangeShapes Go.WideShapes Go.ChangeAt Go.RowKit Go.Deep
open Go.ChangeMaps (open_string shut_string)

theorem own : ownKnob Try.prog.godebug = none := by kernel_rfl
theorem laidOut : laidOutB Try.prog = true := by kernel_rfl
theorem readable23 : Try.prog.readableRec 23 = true := by kernel_rfl
theorem readable9 : Try.prog.readableRec 9 = true := by kernel_rfl
theorem row23 : 23 < Try.prog.types.size := of_decide_eq_true (by kernel_rfl)
theorem row9 : 9 < Try.prog.types.size := of_decide_eq_true (by kernel_rfl)

section
variable {H : Type} {enc : TypeId × Value → H} {P : Program} {w : World} {base : Nat} {spare : Nat → Bool} {held : Bool}
theorem open_slice_fields {t e : TypeId} {fs : Array Field} {fuel : Nat} {cs : List Value} {x : DataW H × List MemPlace} (ht : P.underlying t = some (.slice e)) (he : P.underlying e = some (.struct fs))
    (hone : oneCellFields P fs = true) (hC : P.cellsOf e = fs.size) (h : DataW.trod enc P w base spare held fuel t cs = some x) :
    (cs = [.slice none 0 0] ∧ x = (.nil, [])) ∨
    ∃ (a : Addr) (len cap m : Nat) (D : Nat → DataW H) (Pl : Nat → List MemPlace), cs = [.slice (some a) len cap] ∧ base ≤ a.block ∧ len ≤ cap ∧ cap ≤ maxLen ∧ m = (if spare a.block then cap else len) ∧
      x = (.slice ((List.range len).map D) ((List.range (m - len)).map fun j => D (len + j)), MemPlace.row a (m * fs.size) ++ (List.range m).flatMap Pl) ∧
      ∀ i, i < m → ∃ (ys : List (DataW H × List MemPlace)) (n : Nat), D i = .agg (ys.map (·.1)) ∧ Pl i = ys.flatMap (·.2) ∧ ys.length = fs.size ∧
        ∀ (j : Nat) (f : Field), fs[j]? = some f → ∃ (v : Value) (y : DataW H × List MemPlace), w.cell? (a.add (i * fs.size + j)) = some v ∧ ys[j]? = some y ∧ DataW.trod enc P w base spare held n f.type [v] = some y := by
  rcases open_slice ht h with h0 | ⟨a, len, cap, m, n, D, Pl, hcs, hb, hl, hm, hmm, hx, hi⟩
  · exact .inl h0
  · refine .inr ⟨a, len, cap, m, D, Pl, hcs, hb, hl, hm, hmm, by rw [hC] at hx; exact hx, fun i him => ?_⟩
    obtain ⟨cs', hc, ht'⟩ := hi i him
    rw [hC] at hc
    obtain ⟨ys, n', hn', hy, hlen, hyl, hf⟩ := DataW.trod_struct he ht'
    obtain ⟨_, hcl, hat⟩ := World.cells?_some hc
    simp only [Prod.mk.injEq] at hy
    refine ⟨ys, n', hy.1, hy.2, hyl, fun j f hj => ?_⟩
    obtain ⟨ho, hk⟩ := hone_of hone j f hj
    have hjl : j < fs.size := (Array.getElem?_eq_some_iff.1 hj).1
    have hcell := hat j hjl
    have hv : cs'[j]? = some (cs'[j]'(by omega)) := List.getElem?_eq_getElem (by omega)
    have h1 := hf j f hj
    rw [ho, hk] at h1
    have hone' : (cs'.drop j).take 1 = [cs'[j]'(by omega)] := by
      rw [List.drop_eq_getElem_cons (by omega)]
      rfl
    rw [hone'] at h1
    have hys : ys[j]? = some (ys[j]'(by omega)) := List.getElem?_eq_getElem (by omega)
    refine ⟨_, _, ?_, hys, h1.trans hys⟩
    rw [← Go.Deep.add_add, hcell, hv]
end

section
variable {H : Type} {enc : TypeId × Value → H} {P : Program}
theorem post_of_below {f : Func} {s : ChangeSpec} {apart fresh handsOn again : Bool} {W W' : World} {args : Array Value} {v : Value} {ds gs : List (DataW H)} {before pa pv : List MemPlace}
    (hW : DataW.Whole enc P f.params.toList s.vars apart W args.toList ds gs before)
    (hres : ∀ (b : Nat) (sp : Nat → Bool) (hd : Bool), DataW.TrodAll enc P W' b sp hd f.resultTypes.toList (v.resultList f.resultTypes.size) (s.fn H (ds ++ gs)).results [])
    (hargs : ∀ sp : Nat → Bool, (∀ p ∈ before, sp p.block = true) → DataW.TrodAll enc P W' 0 sp true f.params.toList args.toList (s.fn H (ds ++ gs)).args pa)
    (hvars : ∀ sp : Nat → Bool, (∀ p ∈ before, sp p.block = true) → DataW.TrodVars enc P W' sp s.vars (s.fn H (ds ++ gs)).vars pv)
    (hps : before = pa ++ pv) (hb : Below W.heap.size W W')
    (hok : ∀ (j : Nat) (t : TypeId) (r : Value), f.resultTypes[j]? = some t → (v.resultList f.resultTypes.size)[j]? = some r → Value.okWide P W' .any 0 t r) :
    s.post enc P f apart fresh handsOn again W args v W' := by
  have hlt : ∀ p ∈ before, p.block < W.heap.size := fun p hp => hW.lt p hp
  have hold : ∀ p ∈ before, (fun b => decide (b < W.heap.size)) p.block = true := fun p hp => by simpa using hlt p hp
  refine ⟨ds, gs, before, [], pa, pv, hW, hres _ _ _, hargs _ hold, hvars _ hold, World.keptBut_mono (fun p hp => ⟨hp, ?_⟩) (hb.frame (· ∈ before)), fun _ => ?_⟩
  · rw [hps, List.mem_append] at hp
    exact Or.inr hp
  · obtain ⟨_, _, _, _, _, hz, hn⟩ := hW
    refine ⟨hok, _, _, ([] ++ pa) ++ pv, ⟨[] ++ pa, pv, trodAll_append (hargs _ (fun _ _ => rfl)) (hres _ _ _), hvars _ (fun _ _ => rfl), rfl, ?_, ?_⟩, ?_⟩
    · intro b off hp
      have hin : MemPlace.cell b off ∈ before := by rw [hps]; simpa using hp
      rw [hb.frozen (hlt _ hin)]
      exact hz b off hin
    · intro ha
      have := hn ha
      rw [hps] at this
      simpa using this
    · intro p hp _
      rw [hps]
      simpa using hp
end

theorem cell_lt {w : World} {a : Addr} {u : Value} (h : w.cell? a = some u) : a.block < w.heap.size := by
  unfold World.cell? at h
  rcases Nat.lt_or_ge a.block w.heap.size with h' | h'
  · exact h'
  · rw [Array.getElem?_eq_none h'] at h; simp at h
theorem i64_of_wf {n : Int} (h : (Lit.int .i64 n).wf = true) : I64 n := by
  simp only [Lit.wf, Bool.and_eq_true, decide_eq_true_eq] at h
  exact h

theorem weightsAll_mem {H : Type} {P : Program} {e : TypeId} {d : DataW H} {n : Nat} (hn : n ∈ d.weights P e) : ∀ {l : List (DataW H)}, d ∈ l → n ∈ DataW.weightsAll P e l
  | [], h => by cases h
  | x :: l, h => by
    rw [DataW.weightsAll, List.mem_append]
    rcases List.mem_cons.1 h with rfl | h
    · exact .inl hn
    · exact .inr (weightsAll_mem hn h)
theorem weightsEach_mem {H : Type} {P : Program} {t : TypeId} {d : DataW H} {n : Nat} (hn : n ∈ d.weights P t) : ∀ {ts : List TypeId} {ds : List (DataW H)} {j : Nat}, ts[j]? = some t → ds[j]? = some d → n ∈ DataW.weightsEach P ts ds
  | [], _, _, h, _ => by simp at h
  | _ :: _, [], _, _, h => by simp at h
  | t' :: ts, d' :: ds, 0, h, h' => by
    simp only [List.getElem?_cons_zero, Option.some.injEq] at h h'
    subst h h'
    rw [DataW.weightsEach, List.mem_append]; exact .inl hn
  | t' :: ts, d' :: ds, j + 1, h, h' => by
    simp only [List.getElem?_cons_succ] at h h'
    rw [DataW.weightsEach, List.mem_append]; exact .inr (weightsEach_mem hn h h')

theorem weights41 {H : Type} {ds : List (DataW H)} {b : List UInt8} (h : ds[4]? = some (.lit (.string b))) : b.length ∈ DataW.weights Try.prog 41 (DataW.agg ds) := by
  rw [DataW.weights, Try.underlying41]
  exact weightsEach_mem (t := 9) (d := .lit (.string b)) (j := 4) (by rw [DataW.weights]; exact List.mem_singleton.2 rfl) rfl h
theorem weights23 {H : Type} {l r : List (DataW H)} {d : DataW H} {n : Nat} (hn : n ∈ d.weights Try.prog 41) (hd : d ∈ l) : n ∈ DataW.weights Try.prog 23 (DataW.slice l r) := by
  rw [DataW.weights, Try.underlying23]
  exact List.mem_cons_of_mem _ (List.mem_append.2 (.inl (weightsAll_mem hn hd)))

/-- A program that comes in. -/
theorem open_program {H : Type} {enc : TypeId × Value → H} {w : World} {base : Nat} {spare : Nat → Bool} {held : Bool} {v : Value} {d : DataW H} {p : List MemPlace} (hv : ∃ A n cap, v = .slice A n cap) (h : DataW.Trod enc Try.prog w base spare held 23 v d p) (hwt : ∀ n ∈ d.weights Try.prog 23, n ≤ reachBytes) :
    ∃ A n cap ip, v = .slice A n cap ∧ PMem w w.heap.size A n ip ∧ ∀ x ∈ ip, x.I64 := by
  obtain ⟨A0, n0, cap0, rfl⟩ := hv
  obtain ⟨fuel, hf⟩ := h
  rcases open_slice_fields (P := Try.prog) Try.underlying23 Try.underlying41 (by kernel_rfl) (by kernel_rfl) hf with ⟨hcs, _⟩ | ⟨a, len, cap, m, D, Pl, hcs, _, hlen, hcap, hm, hx0, hi⟩
  · simp only [Value.cells, List.cons.injEq, and_true] at hcs
    cases hcs
    exact ⟨none, 0, 0, [], rfl, PMem.none_, fun x hx => by cases hx⟩
  · simp only [Value.cells, List.cons.injEq, and_true] at hcs
    obtain ⟨e1, e2, e3⟩ : A0 = some a ∧ n0 = len ∧ cap0 = cap := by simpa using hcs
    subst e1 e2 e3
    have hml : n0 ≤ m := by rw [hm]; split <;> omega
    have hex : ∀ i : Nat, i < n0 → ∃ x : Ins, (∀ (f : Nat) (u : Value), x.cells[f]? = some u → w.cell? (a.add (i * 5 + f)) = some u) ∧ x.I64 := by
      intro i hil
      obtain ⟨ys, n, hD, _, _, hf⟩ := hi i (by omega)
      obtain ⟨v0, y0, c0, _, t0⟩ := hf 0 _ rfl
      obtain ⟨v1, y1, c1, _, t1⟩ := hf 1 _ rfl
      obtain ⟨v2, y2, c2, _, t2⟩ := hf 2 _ rfl
      obtain ⟨v3, y3, c3, _, t3⟩ := hf 3 _ rfl
      obtain ⟨v4, y4, c4, hy4, t4⟩ := hf 4 _ rfl
      obtain ⟨k0, e0, _, w0⟩ := DataW.trod_int Try.underlying3 t0
      obtain ⟨n1, e1, _, w1⟩ := DataW.trod_int Try.underlying3 t1
      obtain ⟨n2, e2, _, w2⟩ := DataW.trod_int Try.underlying3 t2
      obtain ⟨n3, e3, _, w3⟩ := DataW.trod_int Try.underlying3 t3
      obtain ⟨s4, e4, ey4, _⟩ := DataW.trod_string Try.underlying9 t4
      have hd : d = .slice ((List.range n0).map D) ((List.range (m - n0)).map fun j => D (n0 + j)) := congrArg Prod.fst hx0
      have w4 : s4.size ≤ reachBytes := by
        have := hwt _ (by rw [hd]; exact weights23 (weights41 (b := s4.data.toList) (ds := ys.map (·.1)) (by rw [List.getElem?_map, hy4, ey4]; rfl)) (List.mem_map.2 ⟨i, List.mem_range.2 hil, hD⟩))
        rw [Array.length_toList] at this
        exact this
      cases e0; cases e1; cases e2; cases e3; cases e4
      refine ⟨⟨k0, n1, n2, n3, s4⟩, ?_, i64_of_wf w0, i64_of_wf w1, i64_of_wf w2, i64_of_wf w3, by unfold reachBytes at w4; simp only; omega⟩
      intro f u hu
      match f, hu with
      | 0, hu => cases hu; exact c0
      | 1, hu => cases hu; exact c1
      | 2, hu => cases hu; exact c2
      | 3, hu => cases hu; exact c3
      | 4, hu => cases hu; exact c4
      | f + 5, hu => simp [Ins.cells] at hu
    clear hi hf hcs hx0 hwt hm hlen hcap
    obtain ⟨ip, hl, hget⟩ : ∃ ip : List Ins, ip.length = n0 ∧ ∀ (i : Nat) (x : Ins), ip[i]? = some x → (∀ (f : Nat) (u : Value), x.cells[f]? = some u → w.cell? (a.add (i * 5 + f)) = some u) ∧ x.I64 := by
      clear hml
      induction n0 with
      | zero => exact ⟨[], rfl, fun i x h => by simp at h⟩
      | succ k ih =>
        obtain ⟨ip, hl, hg⟩ := ih (fun i hi => hex i (by omega))
        obtain ⟨x, hx⟩ := hex k (by omega)
        refine ⟨ip ++ [x], by simp [hl], fun i y hy => ?_⟩
        by_cases hik : i < ip.length
        · rw [List.getElem?_append_left hik] at hy; exact hg i y hy
        · rw [List.getElem?_append_right (by omega)] at hy
          obtain ⟨j, rfl⟩ : ∃ j, i = ip.length + j := ⟨i - ip.length, by omega⟩
          rw [show ip.length + j - ip.length = j by omega] at hy
          cases j with
          | zero => simp only [List.getElem?_cons_zero, Option.some.injEq] at hy; subst hy; rw [Nat.add_zero, hl]; exact hx
          | succ j => simp at hy
    refine ⟨_, _, _, ip, rfl, ⟨hl.symm, by rw [progCells_length, hl], fun hpos => ⟨a, rfl, ?_, ?_⟩⟩, fun x hx => ?_⟩
    · obtain ⟨x, hx, _⟩ := hex 0 hpos
      have := cell_lt (hx 0 _ rfl)
      rwa [block_of_add] at this
    · intro j u hu
      have hj : j < n0 * 5 := by have := (List.getElem?_eq_some_iff.1 hu).1; rwa [progCells_length, hl] at this
      have hi5 : j / 5 < ip.length := by omega
      have hg := hget (j / 5) _ (List.getElem?_eq_getElem hi5)
      have hj5 : j % 5 < 5 := Nat.mod_lt _ (by omega)
      obtain ⟨u', hu'⟩ : ∃ u', (ip[j / 5]).cells[j % 5]? = some u' := ⟨_, List.getElem?_eq_getElem (show j % 5 < (ip[j / 5]).cells.length from hj5)⟩
      have e := progCells_get ip (j / 5) (j % 5) _ u' (List.getElem?_eq_getElem hi5) hu'
      rw [show j / 5 * 5 + j % 5 = j by omega, hu] at e
      cases e
      have := hg.1 (j % 5) u hu'
      rwa [show j / 5 * 5 + j % 5 = j by omega] at this
    · obtain ⟨i, hi, rfl⟩ := List.mem_iff_getElem.1 hx
      exact (hget i _ (List.getElem?_eq_getElem hi)).2
end Go.Proofs.Ytgbieakahgkkpaa
