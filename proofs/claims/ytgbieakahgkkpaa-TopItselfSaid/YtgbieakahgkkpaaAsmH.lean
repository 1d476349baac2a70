/- The universal program, as the program returns it. -/
import Derived.Test.YtgbieakahgkkpaaAsmG
import Derived.KernelRfl
namespace Go.Proofs.Ytgbieakahgkkpaa
open Go.RowKit Go.Maps
theorem uni_len : uniU.a.p.length = 129 := by kernel_rfl
theorem uni_prog : uniU.a.done = encP uProg := by kernel_rfl

def U.inv (u : U) : Prop := (∀ i n, u.a.from_ i = some n → 0 ≤ i ∧ i < u.a.p.length ∧ n.size ≤ 1000) ∧ ∀ n, 0 ≤ u.a.at_ n ∧ u.a.at_ n ≤ u.a.p.length
theorem inv_new : (⟨0, Asm.new⟩ : U).inv := ⟨fun i n h => (by cases h), fun n => ⟨Int.le_refl _, Int.le_refl _⟩⟩
theorem inv_named {u : U} (h : u.inv) : u.named.inv := h
theorem inv_emit {u : U} (h : u.inv) (x : Ins) : (u.emit x).inv := by
  refine ⟨fun i n hi => ?_, fun n => ?_⟩
  · obtain ⟨h1, h2, h3⟩ := h.1 i n hi
    exact ⟨h1, by simp [U.emit, Asm.emit]; omega, h3⟩
  · have := h.2 n
    show 0 ≤ u.a.at_ n ∧ u.a.at_ n ≤ _
    exact ⟨this.1, by simp [U.emit, Asm.emit]; omega⟩
theorem inv_here {u : U} (h : u.inv) (s : ByteArray) : (u.here s).inv := by
  refine ⟨h.1, fun n => ?_⟩
  have := h.2 n
  show 0 ≤ (if n = s then ((u.a.p.length : Nat) : Int) else u.a.at_ n) ∧ (if n = s then ((u.a.p.length : Nat) : Int) else u.a.at_ n) ≤ u.a.p.length
  split <;> omega
theorem inv_jump {u : U} (h : u.inv) (r : Int) {s : ByteArray} (hs : s.size ≤ 1000) : (u.jump r s).inv := by
  refine ⟨fun i n hi => ?_, fun n => ?_⟩
  · replace hi : (if i = u.a.p.length then some s else u.a.from_ i) = some n := hi
    have e : (u.jump r s).a.p.length = u.a.p.length + 1 := by simp [U.jump, Asm.jump, Asm.emit, Asm.want]
    rw [e]
    split at hi
    · cases hi; exact ⟨by omega, by omega, hs⟩
    · obtain ⟨h1, h2, h3⟩ := h.1 i n hi
      exact ⟨h1, by omega, h3⟩
  · have := h.2 n
    have e : (u.jump r s).a.p.length = u.a.p.length + 1 := by simp [U.jump, Asm.jump, Asm.emit, Asm.want]
    rw [e]
    show 0 ≤ u.a.at_ n ∧ u.a.at_ n ≤ _
    exact ⟨this.1, by omega⟩
theorem nsz (n : Nat) : (nameS n).size ≤ 1000 := by rw [nameS_size]; omega
theorem inv_count {u : U} (h : u.inv) {f : U → U} (hf : ∀ v : U, v.inv → (f v).inv) : (u.count f).inv := by
  unfold U.count
  exact inv_here (inv_jump (inv_emit (hf _ (inv_here (inv_jump (inv_jump (inv_here (inv_named (inv_named (inv_named h))) _) _ (nsz _)) _ (nsz _)) _)) _) _ (nsz _)) _
theorem inv_kind {u : U} (h : u.inv) {f : U → U} (hf : ∀ v : U, v.inv → (f v).inv) {go : ByteArray} (hgo : go.size ≤ 1000) : (u.kind f go).inv := by
  unfold U.kind
  exact inv_emit (inv_here (inv_jump (hf _ (inv_jump (inv_named h) _ (nsz _))) _ hgo) _) _
theorem inv_fetch {u : U} (h : u.inv) (to : Int) : (u.fetch to).inv := inv_emit (inv_count (inv_emit h _) (fun _ hv => inv_emit hv _)) _
theorem inv_next {u : U} (h : u.inv) : u.next.inv := inv_emit (inv_emit (inv_emit h _) _) _
theorem inv_store {u : U} (h : u.inv) : u.store.inv := by
  unfold U.store
  exact inv_emit (inv_here (inv_jump (inv_emit (inv_emit (inv_emit (inv_here (inv_jump (inv_jump (inv_here (inv_named (inv_named (inv_named (inv_emit (inv_emit (inv_count (inv_emit (inv_emit (inv_emit h _) _) _) (fun _ hv => inv_emit (inv_emit (inv_emit hv _) _) _)) _) _)))) _) _ (nsz _)) _ (nsz _)) _) _) _) _) _ (nsz _)) _) _
theorem inv_k85 {u : U} (h : u.inv) : (k85 u).inv := inv_fetch (inv_emit h _) _
set_option maxRecDepth 100000 in
theorem uni_inv : uniU.inv := by
  unfold uniU
  exact (inv_here (inv_jump (inv_count (inv_emit (inv_emit (inv_count (inv_here (inv_jump (inv_count (inv_jump (inv_emit (inv_emit (inv_here (inv_jump (inv_store (inv_here (inv_jump (inv_next (inv_here (inv_jump (inv_fetch (inv_emit (inv_kind (inv_kind (inv_kind (inv_kind (inv_kind (inv_emit (inv_emit (inv_emit (inv_emit (inv_emit (inv_here (inv_jump (inv_emit (inv_jump (inv_here (inv_emit (inv_emit (inv_emit (inv_emit (inv_emit inv_new _) _) _) _) _) _) _ (by decide)) _) _ (by decide)) _) _) _) _) _) _) (fun _ hv => inv_emit hv _) (by decide)) (fun _ hv => inv_k85 hv) (by decide)) (fun _ hv => inv_emit (inv_fetch (inv_emit (inv_fetch (inv_emit hv _) _) _) _) _) (by decide)) (fun _ hv => inv_emit (inv_k85 hv) _) (by decide)) (fun _ hv => inv_emit (inv_k85 hv) _) (by decide)) _) _) _ (by decide)) _)) _ (by decide)) _)) _ (by decide)) _) _) _) _ (by decide)) (fun _ hv => inv_next hv)) _ (by decide)) _) (fun _ hv => inv_emit hv _)) _) _) (fun _ hv => inv_emit hv _)) _ (by decide)) _)
theorem uni_ok : uniU.a.ok := ⟨by rw [uni_len]; omega, fun i n h => by
  obtain ⟨h1, h2, h3⟩ := uni_inv.1 i n h
  have h4 := uni_inv.2 n
  rw [uni_len] at h4
  exact ⟨h1, h2, h3, h4.1, by omega⟩⟩

/-- Universal returns the universal program. -/
theorem universal_any (w : World) : Calls Try.prog 20 #[] w fun e w' => ∃ A cap, e = .returned (.slice A 129 cap) ∧ w'.ownsRow w.heap.size 41 5 (.slice A 129 cap) 129 (progCells (encP uProg)) ∧ Below w.heap.size w w' :=
  (universal_raw w uni_len uni_ok).mono fun e w' ⟨A, cap, he, ho, hb⟩ => ⟨A, cap, he, by rw [← uni_prog]; exact ho, hb⟩
end Go.Proofs.Ytgbieakahgkkpaa
