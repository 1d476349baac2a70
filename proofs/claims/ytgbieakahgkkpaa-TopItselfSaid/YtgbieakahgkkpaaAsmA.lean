/- The writer of programs in memory: two maps and a row of instructions. -/
import Derived.Test.YtgbieakahgkkpaaProg
import Derived.Test.YtgbieakahgkkpaaPMem
import Derived.Maps.OwnOps
import Derived.Maps.Views
import Derived.Maps.RangeWalk
import Derived.WalkKit
import Derived.WalkSpells
import Derived.WalkLawsBesides
import Derived.Outline
import Derived.KernelRfl
namespace Go.Proofs.Ytgbieakahgkkpaa
open Go.RowKit Go.Maps

/-- What has been written. -/
structure Asm where
  at_ : ByteArray → Int
  from_ : Int → Option ByteArray
  c : Nat
  p : List Ins

def Asm.new : Asm := ⟨fun _ => 0, fun _ => none, 0, []⟩
def Asm.emit (x : Ins) (s : Asm) : Asm := ⟨s.at_, s.from_, s.c, s.p ++ [x]⟩
def Asm.put (n : ByteArray) (i : Int) (s : Asm) : Asm := ⟨fun t => if t = n then i else s.at_ t, s.from_, s.c + 1, s.p⟩
def Asm.here (n : ByteArray) (s : Asm) : Asm := s.put n s.p.length
def Asm.want (i : Int) (n : ByteArray) (s : Asm) : Asm := ⟨s.at_, fun j => if j = i then some n else s.from_ j, s.c + 1, s.p⟩
def Asm.jump (a : Int) (n : ByteArray) (s : Asm) : Asm := (s.want s.p.length n).emit ⟨5, a, 0, 0, ByteArray.empty⟩

def AtIs (D : DataW Unit) (f : ByteArray → Int) : Prop := IsMap D ∧ ∀ s : ByteArray, D.atKey (.string s.data.toList) (.lit (.int .i64 0)) = .lit (.int .i64 (f s))
def FromIs (D : DataW Unit) (g : Int → Option ByteArray) : Prop := IsMap D ∧ (∀ i, Maps.has D (.int .i64 i) = (g i).isSome) ∧ ∀ i s, g i = some s → ∀ z, D.atKey (.int .i64 i) z = .lit (.string s.data.toList)

theorem bytes_inj {s t : ByteArray} (h : s.data.toList = t.data.toList) : s = t := by
  obtain ⟨a⟩ := s; obtain ⟨b⟩ := t
  congr 1
  exact Array.toList_inj.1 h
theorem AtIs.empty : AtIs (.map []) (fun _ => 0) := ⟨isMap_empty, fun _ => rfl⟩
theorem FromIs.empty : FromIs (.map []) (fun _ => none) := ⟨isMap_empty, fun _ => rfl, fun _ _ h => by cases h⟩
theorem AtIs.put {D : DataW Unit} {f : ByteArray → Int} (h : AtIs D f) (n : ByteArray) (v : Int) : AtIs (D.put (.string n.data.toList) (.lit (.int .i64 v))) (fun t => if t = n then v else f t) := by
  refine ⟨h.1.put _ _, fun s => ?_⟩
  show DataW.atKey _ _ _ = DataW.lit (Lit.int IntKind.i64 (if s = n then v else f s))
  by_cases hs : s = n
  · subst hs; rw [if_pos rfl]; exact atKey_put_same h.1 (by trivial) _ _
  · rw [if_neg hs, atKey_put_other]
    · exact h.2 s
    · intro e; exact hs (bytes_inj (by simpa using e))
theorem FromIs.put {D : DataW Unit} {g : Int → Option ByteArray} (h : FromIs D g) (i : Int) (n : ByteArray) : FromIs (D.put (.int .i64 i) (.lit (.string n.data.toList))) (fun j => if j = i then some n else g j) := by
  refine ⟨h.1.put _ _, fun j => ?_, fun j s hj z => ?_⟩
  · show Maps.has _ _ = (if j = i then some n else g j).isSome
    by_cases hs : j = i
    · subst hs; rw [if_pos rfl]; exact has_put_same h.1 (by trivial) _
    · rw [if_neg hs, has_put_other]
      · exact h.2.1 j
      · intro e; exact hs (by simpa using e)
  · replace hj : (if j = i then some n else g j) = some s := hj
    by_cases hs : j = i
    · subst hs; rw [if_pos rfl] at hj; cases hj; exact atKey_put_same h.1 (by trivial) _ _
    · rw [if_neg hs] at hj
      rw [atKey_put_other]
      · exact h.2.2 j s hj z
      · intro e; exact hs (by simpa using e)

theorem law9 : Keyed Try.prog 9 := string_keyed Try.underlying9
theorem law3 : Keyed Try.prog 3 := int_keyed Try.underlying3
theorem zero3 (w : World) : (zeroValue 3).run Try.prog w = .ok (.int .i64 0) w := by kernel_rfl

/-- The writer in memory. -/
def WR (w : World) (B b : Nat) (s : Asm) : Prop := ∃ (bm bf N : Nat) (v : Value) (Dm Df : DataW Unit),
  Blk w b 148 #[.map (some bm), .map (some bf), v] ∧ w.ownsMap Try.prog 9 (plainElem Try.prog 3) bm s.c Dm ∧ AtIs Dm s.at_ ∧ w.ownsMap Try.prog 3 (plainElem Try.prog 9) bf s.c Df ∧ FromIs Df s.from_ ∧
  N = s.p.length ∧ w.ownsRow B 41 5 v N (progCells s.p) ∧ B ≤ b ∧ B ≤ bm ∧ B ≤ bf ∧ bm ≠ bf

/-- Blocks of other kinds stay. -/
def Fr (w w' : World) : Prop := ∀ g t cs, Blk w g t cs → t ≠ 148 → t ≠ 41 → Blk w' g t cs
theorem Fr.refl (w : World) : Fr w w := fun _ _ _ h _ _ => h
theorem Fr.trans {a b c : World} (h : Fr a b) (k : Fr b c) : Fr a c := fun g t cs hb h1 h2 => k g t cs (h g t cs hb h1 h2) h1 h2

section
variable {w w1 w2 : World} {B b bm bf N : Nat} {v v' : Value} {Dm Df : DataW Unit} {s : Asm}
theorem map_ne {k : TypeId} {R : Value → Option (DataW Unit × List MemPlace)} {n : Nat} {D : DataW Unit} {g : Nat} {t : TypeId} {cs : Array Value} (hm : w.ownsMap Try.prog k R b n D) (hb : Blk w g t cs) : b ≠ g := by
  rintro rfl
  obtain ⟨es, clock, h, _⟩ := hm
  unfold Blk at hb
  rw [hb] at h; cases h
theorem map_own_ne {k : TypeId} {R : Value → Option (DataW Unit × List MemPlace)} {n : Nat} {D : DataW Unit} {base : Nat} {e : TypeId} {size m : Nat} {xs : List Value} (hm : w.ownsMap Try.prog k R b n D) (ho : w.ownsRow base e size v m xs) : some b ≠ v.ownBlock := by
  rcases ho.2 with ⟨rfl, _⟩ | ⟨g', cap, cur, rfl, _, hh, _⟩
  · simp [Value.ownBlock]
  · intro he
    have : b = g' := by simpa [Value.ownBlock] using he
    exact map_ne hm (t := e) (cs := cur) hh this
theorem grown_set (w : World) (a : Addr) (u : Value) : w.grownBy (w.setCell a u) (some a.block) :=
  ⟨rfl, rfl, rfl, by simp [World.setCell], fun i _ hne => Below.heap_setCell w a u i (fun e => hne (by rw [e]))⟩
theorem own_far {base : Nat} {e : TypeId} {size n : Nat} {xs : List Value} (h : w.ownsRow base e size v n xs) (a : Addr) (u : Value) (hne : some a.block ≠ v.ownBlock) : (w.setCell a u).ownsRow base e size v n xs :=
  h.kept (grown_set w a u) (by
    cases hv : v.ownBlock with
    | none => exact .inl rfl
    | some k => exact .inr (fun e' => hne (by rw [hv]; exact e'.symm)))

/-- An instruction has been appended and the row stored. -/
theorem WR.emit {x : Ins} {o : Obj} (hb : Blk w b 148 #[.map (some bm), .map (some bf), v]) (hm : w.ownsMap Try.prog 9 (plainElem Try.prog 3) bm s.c Dm) (ha : AtIs Dm s.at_) (hf : w.ownsMap Try.prog 3 (plainElem Try.prog 9) bf s.c Df) (hfr : FromIs Df s.from_)
    (hN : N = s.p.length) (ho : w.ownsRow B 41 5 v N (progCells s.p)) (h1 : B ≤ b) (h2 : B ≤ bm) (h3 : B ≤ bf) (h4 : bm ≠ bf)
    (hg : (w.alloc o).grownBy w2 v.ownBlock) (ho2 : w2.ownsRow B 41 5 v' (N + 1) (progCells s.p ++ x.cells)) :
    WR (w2.setCell ⟨b, 2, none⟩ v') B b (s.emit x) ∧ Fr w (w2.setCell ⟨b, 2, none⟩ v') ∧ Below B w (w2.setCell ⟨b, 2, none⟩ v') := by
  have hbv : some b ≠ v.ownBlock := fun e => own_blk_ne ho hb (by decide) e.symm
  have hb2 := ((hb.alloc o).grown hg hbv)
  have hbs := hb2.set_ 2 v'
  have hB : B ≤ w.heap.size := by have := hb.lt; omega
  refine ⟨⟨bm, bf, N + 1, v', Dm, Df, by simpa using hbs, ((hm.alloc o).kept hg (map_own_ne hm ho)).setCell (map_ne ((hm.alloc o).kept hg (map_own_ne hm ho)) hb2) _, ha, ((hf.alloc o).kept hg (map_own_ne hf ho)).setCell (map_ne ((hf.alloc o).kept hg (map_own_ne hf ho)) hb2) _, hfr, by simp [Asm.emit, hN], ?_, h1, h2, h3, h4⟩, ?_, ?_⟩
  · have e : progCells (s.emit x).p = progCells s.p ++ x.cells := by simp [Asm.emit, progCells]
    rw [e]
    exact own_far ho2 _ _ (fun e => own_blk_ne ho2 hb2 (by decide) e.symm)
  · intro g t cs hbk n1 n2
    have := ((hbk.alloc o).grown hg (fun e => own_blk_ne ho hbk (Ne.symm n2) e.symm))
    exact this.far (p := ⟨b, 2, none⟩) (this.ne_ hb2 n1) _
  · exact (((Below.refl B w).alloc hB o).grown hg (by simp; omega) (fun k hk => (ho.lt k hk).1)).setCell (p := ⟨b, 2, none⟩) h1 _
theorem WR.put_ {s : Asm} {n : ByteArray} {i : Int} (hb : Blk w b 148 #[.map (some bm), .map (some bf), v]) (ha : AtIs Dm s.at_) (hf : w.ownsMap Try.prog 3 (plainElem Try.prog 9) bf s.c Df) (hfr : FromIs Df s.from_)
    (hN : N = s.p.length) (ho : w.ownsRow B 41 5 v N (progCells s.p)) (h1 : B ≤ b) (h2 : B ≤ bm) (h3 : B ≤ bf) (h4 : bm ≠ bf) (hm : w.ownsMap Try.prog 9 (plainElem Try.prog 3) bm s.c Dm)
    (hm2 : w2.ownsMap Try.prog 9 (plainElem Try.prog 3) bm (s.c + 1) (Dm.put (.string n.data.toList) (.lit (.int .i64 i)))) (hg : w.grownBy w2 (some bm)) :
    WR w2 B b (s.put n i) ∧ Fr w w2 ∧ Below B w w2 := by
  have hB : B ≤ w.heap.size := by have := hb.lt; omega
  refine ⟨⟨bm, bf, N, v, _, Df, hb.grown hg (fun e => map_ne hm hb (by cases e; rfl)), hm2, ha.put n i, (hf.kept hg (fun e => h4 (by cases e; rfl))).mono (Nat.le_succ _), hfr, hN, ?_, h1, h2, h3, h4⟩, ?_, ?_⟩
  · refine ho.kept hg ?_
    cases hv : v.ownBlock with
    | none => exact .inl rfl
    | some k => exact .inr (fun e => map_own_ne hm ho (by rw [hv]; exact e.symm))
  · intro g t cs hbk n1 n2
    exact hbk.grown hg (fun e => map_ne hm hbk (by cases e; rfl))
  · exact (Below.refl B w).grown hg hB (fun k hk => by cases hk; exact h2)
theorem WR.want_ {s : Asm} {n : ByteArray} {i : Int} (hb : Blk w b 148 #[.map (some bm), .map (some bf), v]) (hm : w.ownsMap Try.prog 9 (plainElem Try.prog 3) bm s.c Dm) (ha : AtIs Dm s.at_) (hfr : FromIs Df s.from_)
    (hN : N = s.p.length) (ho : w.ownsRow B 41 5 v N (progCells s.p)) (h1 : B ≤ b) (h2 : B ≤ bm) (h3 : B ≤ bf) (h4 : bm ≠ bf) (hf : w.ownsMap Try.prog 3 (plainElem Try.prog 9) bf s.c Df)
    (hf2 : w2.ownsMap Try.prog 3 (plainElem Try.prog 9) bf (s.c + 1) (Df.put (.int .i64 i) (.lit (.string n.data.toList)))) (hg : w.grownBy w2 (some bf)) :
    WR w2 B b (s.want i n) ∧ Fr w w2 ∧ Below B w w2 := by
  have hB : B ≤ w.heap.size := by have := hb.lt; omega
  refine ⟨⟨bm, bf, N, v, Dm, _, hb.grown hg (fun e => map_ne hf hb (by cases e; rfl)), (hm.kept hg (fun e => h4 (by cases e; rfl))).mono (Nat.le_succ _), ha, hf2, hfr.put i n, hN, ?_, h1, h2, h3, h4⟩, ?_, ?_⟩
  · refine ho.kept hg ?_
    cases hv : v.ownBlock with
    | none => exact .inl rfl
    | some k => exact .inr (fun e => map_own_ne hf ho (by rw [hv]; exact e.symm))
  · intro g t cs hbk n1 n2
    exact hbk.grown hg (fun e => map_ne hf hbk (by cases e; rfl))
  · exact (Below.refl B w).grown hg hB (fun k hk => by cases hk; exact h3)
end
end Go.Proofs.Ytgbieakahgkkpaa
