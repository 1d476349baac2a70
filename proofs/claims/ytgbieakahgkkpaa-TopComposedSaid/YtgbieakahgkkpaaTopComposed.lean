/- The statement TopComposed holds: called with whatever arguments can be read as data, in whatever memory, it returns true, and all that was there is as it was. No conditions. -/
import Derived.Test.YtgbieakahgkkpaaRows
import Derived.Test.YtgbieakahgkkpaaOpen
import Derived.Test.YtgbieakahgkkpaaTopP
import Derived.Test.YtgbieakahgkkpaaFactsTopComposed
import Derived.Lib.SmallJoins
import Derived.SizedLaws
namespace Go.Proofs.Ytgbieakahgkkpaa.TopComposed
open Go.ChangeShapes Go.WideShapes Go.ChangeAt Go.RowKit Go.Joins
open Go.ChangeMaps (open_string shut_string)

theorem readable77 : Try.prog.readableRec 77 = true := by kernel_rfl
theorem row77 : 77 < Try.prog.types.size := of_decide_eq_true (by kernel_rfl)
theorem cells77 : Try.prog.cellsOf 77 = 2 := by kernel_rfl

set_option maxRecDepth 100000 in
theorem contract (H : Type) (enc : TypeId × Value → H) (W : World) (base : Nat) (args : Array Value) (ds gs : List (DataW H)) (before : List MemPlace)
    (hval : ∀ (j : Nat) t v, Try.f13.params[j]? = some t → args[j]? = some v → Value.okWide Try.prog W .any base t v)
    (hW : DataW.Whole enc Try.prog Try.f13.params.toList Rows.topComposedSpec.vars false W args.toList ds gs before)
    (hwt : (DataW.weightsEach Try.prog (Try.f13.params.toList ++ Rows.topComposedSpec.plain.varTypes Try.prog) (ds ++ gs)).all (· ≤ reachBytes) = true) :
    Calls Try.prog 13 args W fun e W' => ∃ v, e = .returned v ∧ Rows.topComposedSpec.post enc Try.prog Try.f13 false true false false W args v W' := by
  have hW' := hW
  obtain ⟨p, q, hA0, hV, rfl, hfz, hnd⟩ := hW
  have hA : DataW.TrodAll enc Try.prog W 0 (fun _ => true) true Try.f13.params.toList args.toList ds p := hA0
  rw [Try.params13] at hA hval hwt
  obtain ⟨v0, v1, v2, d0, d1, d2, p0, p1, p2, rfl, rfl, rfl, h0, h1, h2⟩ := trodAll_three hA
  obtain ⟨rfl, rfl⟩ := trodVars_none hV
  have hw : ∀ n ∈ DataW.weightsEach Try.prog ([23, 23, 77] ++ Rows.topComposedSpec.plain.varTypes Try.prog) ([d0, d1, d2] ++ []), n ≤ reachBytes := by
    intro n hn
    have := List.all_eq_true.1 hwt n hn
    simpa using this
  have hlt : ∀ x ∈ p0 ++ p1 ++ p2, x.block < W.heap.size := fun x hx => hW'.lt x (by simpa using hx)
  have h2k := h2
  obtain ⟨A0, n0, k0, ip0, rfl, hp0, hi0⟩ := open_program (okWide_slice Try.underlying23 (hval 0 23 v0 rfl rfl)) h0 (fun n hn => hw n (weightsEach_mem (j := 0) hn rfl rfl))
  obtain ⟨A1, n1, k1, ip1, rfl, hp1, hi1⟩ := open_program (okWide_slice Try.underlying23 (hval 1 23 v1 rfl rfl)) h1 (fun n hn => hw n (weightsEach_mem (j := 1) hn rfl rfl))
  obtain ⟨c0, c1, y0, y1, m, rfl, rfl, hp2, hy0, hy1⟩ := open_agg2 Try.underlying77 (by kernel_rfl) cells77 (hval 2 77 v2 rfl rfl) h2
  have hsl : ∃ A n cap, c0 = .slice A n cap := by
    rcases open_slice_fields (P := Try.prog) Try.underlying23 Try.underlying41 (by kernel_rfl) (by kernel_rfl) hy0 with ⟨hcs, _⟩ | ⟨a, len, cap, m, D, Pl, hcs, _⟩
    · simp only [List.cons.injEq, and_true] at hcs; exact ⟨_, _, _, hcs⟩
    · simp only [List.cons.injEq, and_true] at hcs; exact ⟨_, _, _, hcs⟩
  have htr : DataW.Trod enc Try.prog W 0 (fun _ => true) true 23 c0 y0.1 y0.2 := by
    obtain ⟨A, n, cap, rfl⟩ := hsl
    exact ⟨m, hy0⟩
  obtain ⟨A2, n2, k2, ip2, rfl, hp2', hi2⟩ := open_program hsl htr (fun n hn => hw n (weightsEach_mem (j := 2) (by simp only [DataW.weights, Try.underlying77]; exact weightsEach_mem (j := 0) hn rfl rfl) rfl rfl))
  obtain ⟨s, hs1, hs2, hs3⟩ := DataW.trod_string Try.underlying9 hy1
  simp only [List.cons.injEq, and_true] at hs1
  subst hs1
  refine (composed_any W A0 A1 A2 n0 k0 n1 k1 n2 k2 ip0 ip1 ip2 hp0 hp1 hp2' hi0 hi1 hi2 s).mono fun e W' ⟨he, hb⟩ => ?_
  subst he
  exact ⟨_, rfl, post_of_below (pa := p0 ++ (p1 ++ (p2 ++ []))) (pv := []) hW' (fun _ _ _ => trodAll_cons_mk (shut_bool Try.underlying4 _) trodAll_mk0)
    (fun sp hsp => trodAll_cons_mk (WideElems.Trod_stays laidOut readable23 row23 h0 (fun x hx => hb.same (hlt x (by simp [hx]))) (fun x hx => hsp x (by simp [hx])))
      (trodAll_cons_mk (WideElems.Trod_stays laidOut readable23 row23 h1 (fun x hx => hb.same (hlt x (by simp [hx]))) (fun x hx => hsp x (by simp [hx])))
        (trodAll_cons_mk (WideElems.Trod_stays laidOut readable77 row77 h2k (fun x hx => hb.same (hlt x (by simp [hx]))) (fun x hx => hsp x (by simp [hx]))) trodAll_mk0))) (fun _ _ => rfl) (by simp) hb (ok_one (by kernel_rfl) rfl (okWide_bool_mk Try.underlying4 _))⟩

set_option maxRecDepth 100000 in
theorem lifted (os : Os) (started : os.Started) (H : Type) (enc : TypeId × Value → H) :
    ReturnsInHanded {} Try.checked os 13 .any (Rows.topComposedSpec.pre6 enc Try.prog Try.f13 Rows.topComposedRow.domain false) (Rows.topComposedSpec.post enc Try.prog Try.f13 false true false false) := by
  refine returnsInHanded_of_change_sized (C := Try.checked) own started (by kernel_rfl) Try.func13
    (ChangeSpec.witness6 (enc := enc) (C := Try.checked) false ⟨#[], #[.slice none 0 0, .slice none 0 0, .agg #[.slice none 0 0, .string .empty]], []⟩ 8 (by kernel_rfl) (by kernel_rfl) (by kernel_rfl) (by kernel_rfl)) ?_
  intro W base args ds gs before hval hW _ hwt _
  exact contract H enc W base args ds gs before hval hW hwt

end Go.Proofs.Ytgbieakahgkkpaa.TopComposed
namespace Go.Proofs.Ytgbieakahgkkpaa
open Go.RowKit

theorem topComposed_holds : Rows.TopComposedSaid :=
  OpenClaim.holds_of_wide 13 Try.f13 rfl rfl rfl rfl rfl rfl rfl ⟨rfl, rfl, rfl, rfl, rfl⟩ rfl rfl rfl rfl rfl (by kernel_rfl) Try.func13 TopComposed.closed
    (of_decide_eq_true (by kernel_rfl)) (by unfold Func.isWrapper; first | (rw [if_pos (by decide +kernel)]; kernel_rfl) | (rw [if_neg (by decide +kernel)]; exact ⟨rfl, rfl⟩))
    (fun os started H enc _ => TopComposed.lifted os started H enc)

#print axioms topComposed_holds
end Go.Proofs.Ytgbieakahgkkpaa
