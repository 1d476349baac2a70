import Derived.Test.YtgbieakahgkkpaaRows
import Derived.Test.YtgbieakahgkkpaaOpen
import Derived.Test.YtgbieakahgkkpaaTopK
import Derived.Test.YtgbieakahgkkpaaFactsLooped
import Derived.SizedLaws
namespace Go.Proofs.Ytgbieakahgkkpaa.TopLooped
open Go.ChangeShapes Go.WideShapes Go.ChangeAt Go.RowKit
open Go.ChangeMaps (open_string shut_string)

set_option maxRecDepth 100000 in
theorem contract (H : Type) (enc : TypeId × Value → H) (W : World) (base : Nat) (args : Array Value) (ds gs : List (DataW H)) (before : List MemPlace)
    (hval : ∀ (j : Nat) t v, Try.f5.params[j]? = some t → args[j]? = some v → Value.okWide Try.prog W .any base t v)
    (hW : DataW.Whole enc Try.prog Try.f5.params.toList Rows.topLoopedSpec.vars false W args.toList ds gs before)
    (hwt : (DataW.weightsEach Try.prog (Try.f5.params.toList ++ Rows.topLoopedSpec.plain.varTypes Try.prog) (ds ++ gs)).all (· ≤ reachBytes) = true) :
    Calls Try.prog 5 args W fun e W' => ∃ v, e = .returned v ∧ Rows.topLoopedSpec.post enc Try.prog Try.f5 false true false false W args v W' := by
  have hW' := hW
  obtain ⟨p, q, hA0, hV, rfl, hfz, hnd⟩ := hW
  have hA : DataW.TrodAll enc Try.prog W 0 (fun _ => true) true Try.f5.params.toList args.toList ds p := hA0
  rw [Try.params5] at hA hval hwt
  obtain ⟨v0, v1, v2, d0, d1, d2, p0, p1, p2, rfl, rfl, rfl, h0, h1, h2⟩ := trodAll_three hA
  obtain ⟨rfl, rfl⟩ := trodVars_none hV
  have hw : ∀ n ∈ DataW.weightsEach Try.prog ([23, 23, 9] ++ Rows.topLoopedSpec.plain.varTypes Try.prog) ([d0, d1, d2] ++ []), n ≤ reachBytes := by
    intro n hn
    have := List.all_eq_true.1 hwt n hn
    simpa using this
  have hlt : ∀ x ∈ p0 ++ p1 ++ p2, x.block < W.heap.size := fun x hx => hW'.lt x (by simpa using hx)
  obtain ⟨A0, n0, k0, ip0, rfl, hp0, hi0⟩ := open_program (okWide_slice Try.underlying23 (hval 0 23 v0 rfl rfl)) h0 (fun n hn => hw n (weightsEach_mem (j := 0) hn rfl rfl))
  obtain ⟨A1, n1, k1, ip1, rfl, hp1, hi1⟩ := open_program (okWide_slice Try.underlying23 (hval 1 23 v1 rfl rfl)) h1 (fun n hn => hw n (weightsEach_mem (j := 1) hn rfl rfl))
  have h2k := h2
  obtain ⟨s, rfl, rfl, rfl, hmax⟩ := open_string Try.underlying9 (hval 2 9 v2 rfl rfl) h2
  refine (looped_any W A0 A1 n0 k0 n1 k1 ip0 ip1 hp0 hp1 hi0 hi1 s).mono fun e W' ⟨he, hb⟩ => ?_
  subst he
  exact ⟨_, rfl, post_of_below (pa := p0 ++ (p1 ++ [])) (pv := []) hW' (fun _ _ _ => trodAll_cons_mk (shut_bool Try.underlying4 _) trodAll_mk0)
    (fun sp hsp => trodAll_cons_mk (WideElems.Trod_stays laidOut readable23 row23 h0 (fun x hx => hb.same (hlt x (by simp [hx]))) (fun x hx => hsp x (by simp [hx])))
      (trodAll_cons_mk (WideElems.Trod_stays laidOut readable23 row23 h1 (fun x hx => hb.same (hlt x (by simp [hx]))) (fun x hx => hsp x (by simp [hx])))
        (trodAll_cons_mk (shut_string Try.underlying9 hmax) trodAll_mk0))) (fun _ _ => rfl) (by simp) hb (ok_one (by kernel_rfl) rfl (okWide_bool_mk Try.underlying4 _))⟩

set_option maxRecDepth 100000 in
theorem lifted (os : Os) (started : os.Started) (H : Type) (enc : TypeId × Value → H) :
    ReturnsInHanded {} Try.checked os 5 .any (Rows.topLoopedSpec.pre6 enc Try.prog Try.f5 Rows.topLoopedRow.domain false) (Rows.topLoopedSpec.post enc Try.prog Try.f5 false true false false) := by
  refine returnsInHanded_of_change_sized (C := Try.checked) own started (by kernel_rfl) Try.func5
    (ChangeSpec.witness6 (enc := enc) (C := Try.checked) false ⟨#[], #[.slice none 0 0, .slice none 0 0, .string .empty], []⟩ 8 (by kernel_rfl) (by kernel_rfl) (by kernel_rfl) (by kernel_rfl)) ?_
  intro W base args ds gs before hval hW _ hwt _
  exact contract H enc W base args ds gs before hval hW hwt

end Go.Proofs.Ytgbieakahgkkpaa.TopLooped
namespace Go.Proofs.Ytgbieakahgkkpaa
open Go.RowKit

theorem topLooped_holds : Rows.TopLoopedSaid :=
  OpenClaim.holds_of_wide 5 Try.f5 rfl rfl rfl rfl rfl rfl rfl ⟨rfl, rfl, rfl, rfl, rfl⟩ rfl rfl rfl rfl rfl (by kernel_rfl) Try.func5 TopLooped.closed
    (of_decide_eq_true (by kernel_rfl)) (by unfold Func.isWrapper; first | (rw [if_pos (by decide +kernel)]; kernel_rfl) | (rw [if_neg (by decide +kernel)]; exact ⟨rfl, rfl⟩))
    (fun os started H enc _ => TopLooped.lifted os started H enc)

#print axioms topLooped_holds
end Go.Proofs.Ytgbieakahgkkpaa
