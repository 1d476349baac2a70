/- Words for memory: a slice that reads as a list, a block that is known whole, a pointer that stands for a tree, and what keeps them. No law of the program is stated here. -/
import Derived.Below
import Derived.Laws.OwnMore
import Derived.Deep.AppendLies
import Derived.Deep.Draws
import Derived.Laws.Rows
import Derived.Maps.AppendAt
import Derived.RegionTactic
import Derived.OwnWalk
import Derived.WalkSmall
import Derived.Deep.QuietTactic
import Derived.Laws.MakeOwn
import Derived.Test.YtgbieakahgkkpaaTree
namespace Go.Proofs.Ytgbieakahgkkpaa
open Go.RowKit

theorem hide {p : Prop} (h : p) : Hid p := h
theorem unhide {p : Prop} (h : Hid p) : p := h

theorem block_of_add (a : Addr) (n : Nat) : (a.add n).block = a.block := by unfold Addr.add; split <;> rfl
theorem add_of_add (a : Addr) (i j : Nat) : (a.add i).add j = a.add (i + j) := by
  unfold Addr.add
  by_cases hi : i = 0 <;> by_cases hj : j = 0 <;> simp [hi, hj, Nat.add_assoc]
theorem add_at (b j : Nat) : (⟨b, 0, none⟩ : Addr).add j = ⟨b, j, none⟩ := by unfold Addr.add; split <;> simp_all

section
variable {P : Program} {f : FuncId} {args : Array Value} {w : World} {v : Value}
theorem quiet_add_left {a n : Nat} (h : Calls P f args (w.drewN (a + n)) fun e w' => e = .returned v ∧ w.drewN (a + n) = w') :
    Calls P f args (w.drewN (a + n)) fun e w'' => e = .returned v ∧ ∃ m, w'' = w.drewN (a + m) :=
  h.mono fun _ _ ⟨he, hm⟩ => ⟨he, n, hm.symm⟩
theorem quiet_left {n : Nat} (h : Calls P f args (w.drewN n) fun e w' => e = .returned v ∧ w.drewN n = w') : Calls P f args (w.drewN n) fun e w'' => e = .returned v ∧ ∃ m, w'' = w.drewN m :=
  h.mono fun _ _ ⟨he, hm⟩ => ⟨he, n, hm.symm⟩
end
theorem results_tmp4 {fn : Func} {t u v x : Tmp} (h : fn.results = #[.tmp t, .tmp u, .tmp v, .tmp x]) (tmps : Array Value) (P : Program) (w : World) :
    (results fn tmps).run P w = .ok (.tuple #[tmps.getD t undef, tmps.getD u undef, tmps.getD v undef, tmps.getD x undef]) w := by simp [results, h]
theorem run_make_rowN {P : Program} (t e : TypeId) (i : TypeInfo) (z : Value) (ht : P.underlying t = some (.slice e)) (hi : P.info? e = some i) (hz : i.zero = some z)
    (kl kc : IntKind) (n c : Nat) (hnc : n ≤ c) (hbytes : i.bytes * c ≤ 281474976710656) (h63 : c ≤ 9223372036854775807) (w : World) :
    (Instr.makeSlice t (.int kl (n : Int)) (.int kc (c : Int))).run P w = .ok (.slice (some ⟨w.heap.size, 0, none⟩) n c) (w.alloc (.cells (madeCells z.cells (c * i.size)) e)) := by
  have hb : (i.bytes : Int) * (c : Int) ≤ 281474976710656 := by
    have h : ((i.bytes * c : Nat) : Int) ≤ 281474976710656 := by omega
    rwa [Int.natCast_mul] at h
  have hr := run_make (P := P) w t e i z ht hi hz kl kc n c (by omega) (by omega) hb (by omega)
  simp only [Int.toNat_natCast] at hr
  exact hr

/-- What a block holds is known whole. -/
def Blk (w : World) (g : Nat) (t : TypeId) (cs : Array Value) : Prop := w.heap[g]? = some (.cells cs t (0, 0))

section
variable {w w' : World} {g : Nat} {t : TypeId} {cs : Array Value}
theorem Blk.lt (h : Blk w g t cs) : g < w.heap.size := by
  rcases Nat.lt_or_ge g w.heap.size with hlt | hge
  · exact hlt
  · unfold Blk at h; rw [Array.getElem?_eq_none hge] at h; cases h
theorem Blk.cell (h : Blk w g t cs) (i : Nat) : w.cell? ⟨g, i, none⟩ = cs[i]? := cell_of_row w g i cs t (0, 0) h
theorem Blk.frozen (h : Blk w g t cs) (i : Nat) : w.frozen? ⟨g, i, none⟩ = false := by
  unfold Blk at h
  simp [World.frozen?, h]
theorem Blk.new (w : World) (t : TypeId) (cs : Array Value) : Blk (w.alloc (.cells cs t)) w.heap.size t cs := heap_alloc_new w _
theorem Blk.drew (h : Blk w g t cs) : Blk w.drew g t cs := h
theorem Blk.drewN (h : Blk w g t cs) (n : Nat) : Blk (w.drewN n) g t cs := h
theorem Blk.alloc (h : Blk w g t cs) (o : Obj) : Blk (w.alloc o) g t cs := (Below.heap_alloc w o g h.lt).trans h
theorem Blk.set_ (h : Blk w g t cs) (i : Nat) (u : Value) : Blk (w.setCell ⟨g, i, none⟩ u) g t (cs.setIfInBounds i u) := by
  unfold Blk at h ⊢
  simp [World.setCell, Array.getElem?_modify, h]
theorem Blk.far (h : Blk w g t cs) {p : Addr} (hp : g ≠ p.block) (u : Value) : Blk (w.setCell p u) g t cs := (Below.heap_setCell w p u g hp).trans h
theorem Blk.below {B : Nat} (h : Blk w g t cs) (hb : Below B w w') (hg : g < B) : Blk w' g t cs := (hb.block g hg).trans h
theorem Blk.grown {row : Option Nat} (h : Blk w g t cs) (hb : w.grownBy w' row) (hg : some g ≠ row) : Blk w' g t cs := (hb.block g h.lt hg).trans h
theorem Blk.ne_ {g' : Nat} {t' : TypeId} {cs' : Array Value} (h : Blk w g t cs) (h' : Blk w g' t' cs') (hne : t ≠ t') : g ≠ g' := by
  rintro rfl
  unfold Blk at h h'
  rw [h] at h'
  injection h' with h'
  injection h' with _ ht
  exact hne ht
theorem own_blk_ne {base : Nat} {e : TypeId} {size n : Nat} {v : Value} {xs : List Value} (h : w.ownsRow base e size v n xs) (hg : Blk w g t cs) (hne : e ≠ t) : v.ownBlock ≠ some g := by
  rcases h.2 with ⟨rfl, _⟩ | ⟨g', cap, cur, rfl, _, hh, _⟩
  · simp [Value.ownBlock]
  · intro he
    have : g' = g := by simpa [Value.ownBlock] using he
    subst this
    exact Blk.ne_ (t := e) hh hg hne rfl
end

/-- A slice that reads as a list of cells, nil let in; it lies below block B. -/
def Reads (w : World) (B size : Nat) (A : Option Addr) (n : Nat) (xs : List Value) : Prop :=
  xs.length = n * size ∧ (0 < n → ∃ ad, A = some ad ∧ ad.block < B ∧ ∀ j u, xs[j]? = some u → w.cell? (ad.add j) = some u)

section
variable {w w' : World} {B B' size n : Nat} {A : Option Addr} {xs : List Value}
theorem Reads.none_ : Reads w B size A 0 [] := ⟨by simp, fun h => absurd h (by omega)⟩
theorem Reads.at_ {k : Nat} (h : Reads w B 1 A n xs) (hk : k < n) : ∃ ad u, A = some ad ∧ ad.block < B ∧ xs[k]? = some u ∧ w.cell? (ad.add k) = some u := by
  obtain ⟨ad, e, hb, hc⟩ := h.2 (by omega)
  have hl : k < xs.length := by have := h.1; omega
  exact ⟨ad, xs[k], e, hb, List.getElem?_eq_getElem hl, hc k _ (List.getElem?_eq_getElem hl)⟩
theorem Reads.keep (h : Reads w B size A n xs) (hk : ∀ p : Addr, p.block < B → w'.cell? p = w.cell? p) : Reads w' B size A n xs :=
  ⟨h.1, fun hn => by
    obtain ⟨ad, e, hb, hc⟩ := h.2 hn
    exact ⟨ad, e, hb, fun j u hu => (hk _ (by rw [block_of_add]; exact hb)).trans (hc j u hu)⟩⟩
theorem Reads.more (h : Reads w B size A n xs) (hB : B ≤ B') : Reads w B' size A n xs :=
  ⟨h.1, fun hn => by
    obtain ⟨ad, e, hb, hc⟩ := h.2 hn
    exact ⟨ad, e, by omega, hc⟩⟩
theorem Reads.below (h : Reads w B size A n xs) (hb : Below B w w') : Reads w' B size A n xs := h.keep fun _ hp => hb.cell hp
theorem Reads.drew (h : Reads w B size A n xs) : Reads w.drew B size A n xs := h
theorem Reads.drewN (h : Reads w B size A n xs) (k : Nat) : Reads (w.drewN k) B size A n xs := h
theorem Reads.alloc (h : Reads w B size A n xs) (hB : B ≤ w.heap.size) (o : Obj) : Reads (w.alloc o) B size A n xs := h.keep fun p hp => World.cell?_alloc_lt w o p (by omega)
theorem Reads.setCell (h : Reads w B size A n xs) {p : Addr} (hB : B ≤ p.block) (u : Value) : Reads (w.setCell p u) B size A n xs :=
  h.keep fun q hq => World.cell?_setCell_other w p q u (fun e => by subst e; omega)
theorem Reads.grown (h : Reads w B size A n xs) {row : Option Nat} (hg : w.grownBy w' row) (hB : B ≤ w.heap.size) (hr : ∀ g, row = some g → B ≤ g) : Reads w' B size A n xs :=
  h.keep fun p hp => World.cell?_of_block (hg.block p.block (by omega) (fun e => by have := hr _ e.symm; omega))
theorem Reads.of_own {base : Nat} {e : TypeId} {c : Nat} (h : w.ownsRow base e size (.slice A n c) n xs) : Reads w w.heap.size size A n xs := by
  refine ⟨h.1, fun hn => ?_⟩
  obtain ⟨g, cap, hv, _, hlt⟩ := h.form hn
  have hA : A = some ⟨g, 0, none⟩ := by injection hv
  subst hA
  exact ⟨_, rfl, hlt, h.cells (g := g) rfl⟩
end

-- append of whatever slice onto a row of the call's own
section
variable {P : Program} (w : World)
theorem run_append_of_nil (base : Nat) (t ty e : TypeId) (i : TypeInfo) (size : Nat) (ht : P.underlying t = some (.slice e)) (hi : P.info? e = some i)
    (v : Value) (n : Nat) (xs : List Value) (hown : w.ownsRow base e size v n xs) (c : Nat) : (Builtin.append_ #[t, t] ty #[v, .slice none 0 c]).run P w = .ok v w := by
  rcases hown.2 with ⟨rfl, rfl⟩ | ⟨g, cap, cur, rfl, _, _, hnc, _⟩
  · simp [Builtin.append_, run_underlying ht, sizeOf, typeInfo, hi, Builtin.lenOf, Builtin.firstCells]
  · simp [Builtin.append_, run_underlying ht, sizeOf, typeInfo, hi, Builtin.lenOf, Builtin.firstCells, hnc, storeCells]

theorem run_append_any (base : Nat) (t ty e : TypeId) (i : TypeInfo) (z : Value) (size bytes : Nat) (ht : P.underlying t = some (.slice e)) (hi : P.info? e = some i) (hz : i.zero = some z)
    (hsize : i.size = size) (hby : i.bytes = bytes) (hzs : z.cells.size = size) (hsz : 0 < size)
    (v : Value) (n : Nat) (xs : List Value) (hown : w.ownsRow base e size v n xs)
    (B : Nat) (A : Option Addr) (m c : Nat) (news : List Value) (hr : Reads w B size A m news) (h1 : ∀ u ∈ news, u.oneCell' = true)
    (h63 : n + m ≤ maxLen) (hbytes : (n + m) * bytes ≤ 140737488355328) (hbase : base ≤ w.heap.size) :
    ∃ v' w', (Builtin.append_ #[t, t] ty #[v, .slice A m c]).run P w = .ok v' w' ∧ w'.ownsRow base e size v' (n + m) (xs ++ news) ∧ w.grownBy w' v.ownBlock ∧
      (v'.ownBlock = v.ownBlock ∨ v'.ownBlock = some w.heap.size) := by
  rcases A with _ | ad
  · have hm : m = 0 := by
      rcases Nat.eq_zero_or_pos m with h0 | h0
      · exact h0
      · obtain ⟨ad, h, _⟩ := hr.2 h0
        cases h
    subst hm
    have hn : news = [] := List.eq_nil_of_length_eq_zero (by simpa using hr.1)
    subst hn
    exact ⟨v, w, run_append_of_nil w base t ty e i size ht hi v n xs hown c, by simpa using hown, World.grownBy.refl w _, .inl rfl⟩
  · have hcells : ∀ j u, news[j]? = some u → w.cell? (ad.add j) = some u := by
      intro j u hu
      rcases Nat.eq_zero_or_pos m with h0 | h0
      · subst h0
        have hn : news = [] := List.eq_nil_of_length_eq_zero (by simpa using hr.1)
        subst hn
        simp at hu
      · obtain ⟨ad', h, _, hc⟩ := hr.2 h0
        injection h with h
        subst h
        exact hc j u hu
    obtain ⟨v', w', hrun, h2, h3, _, h5⟩ := run_append_own_at (P := P) w base t ty e i z size bytes ht hi hz hsize hby hzs hsz v n xs hown ad m c news hr.1 hcells h1 h63 hbytes hbase
    exact ⟨v', w', hrun, h2, h3, h5⟩

theorem wp_append_any {o : Oper} {a : Act} {K : Act → World → Prop} {Q : Exit → Act → World → Prop} (s x : Operand) (t : TypeId)
    (ho : o.op = .call { callee := .builtin .append, args := #[s, x], argTypes := #[t, t] })
    (base : Nat) (e : TypeId) (i : TypeInfo) (z : Value) (size bytes : Nat) (ht : P.underlying t = some (.slice e)) (hi : P.info? e = some i) (hz : i.zero = some z)
    (hsize : i.size = size) (hby : i.bytes = bytes) (hzs : z.cells.size = size) (hsz : 0 < size)
    (v : Value) (n : Nat) (xs : List Value) (hs : a.eval s = v) (hown : w.ownsRow base e size v n xs)
    (B : Nat) (A : Option Addr) (m c : Nat) (news : List Value) (hx : a.eval x = .slice A m c) (hr : Reads w B size A m news) (h1 : ∀ u ∈ news, u.oneCell' = true)
    (h63 : n + m ≤ maxLen) (hbytes : (n + m) * bytes ≤ 140737488355328) (hbase : base ≤ w.heap.size)
    (h : ∀ v' w', w'.ownsRow base e size v' (n + m) (xs ++ news) → w.grownBy w' v.ownBlock → (v'.ownBlock = v.ownBlock ∨ v'.ownBlock = some w.heap.size) → K (a.put o.dst v') w') : o.wp P a w K Q := by
  obtain ⟨v', w', hrun, h2, h3, h4⟩ := run_append_any (P := P) w base t o.type e i z size bytes ht hi hz hsize hby hzs hsz v n xs hown B A m c news hr h1 h63 hbytes hbase
  unfold Oper.wp execOp
  simp only [ho, resolve, invoke, builtin, Sem.run_bind, Sem.run_pure, Result.andThen_ok, List.map_toArray, List.map_cons, List.map_nil, hs, hx, hrun]
  exact h v' w' h2 h3 h4

theorem wpList_append_any {ops : Array Oper} {rest : List Oper} {o : Oper} {a : Act} {Q : Exit → Act → World → Prop} (hgd : o.guard = none) (s x : Operand) (t : TypeId)
    (ho : o.op = .call { callee := .builtin .append, args := #[s, x], argTypes := #[t, t] })
    (base : Nat) (e : TypeId) (i : TypeInfo) (z : Value) (size bytes : Nat) (ht : P.underlying t = some (.slice e)) (hi : P.info? e = some i) (hz : i.zero = some z)
    (hsize : i.size = size) (hby : i.bytes = bytes) (hzs : z.cells.size = size) (hsz : 0 < size)
    (v : Value) (n : Nat) (xs : List Value) (hs : a.eval s = v) (hown : w.ownsRow base e size v n xs)
    (B : Nat) (A : Option Addr) (m c : Nat) (news : List Value) (hx : a.eval x = .slice A m c) (hr : Reads w B size A m news) (h1 : ∀ u ∈ news, u.oneCell' = true)
    (h63 : n + m ≤ maxLen) (hbytes : (n + m) * bytes ≤ 140737488355328) (hbase : base ≤ w.heap.size)
    (h : ∀ v' w', w'.ownsRow base e size v' (n + m) (xs ++ news) → w.grownBy w' v.ownBlock → (v'.ownBlock = v.ownBlock ∨ v'.ownBlock = some w.heap.size) → wpList P ops Q rest (a.put o.dst v') w') : wpList P ops Q (o :: rest) a w :=
  wpList_plain hgd fun _ hK => wp_append_any w s x t ho base e i z size bytes ht hi hz hsize hby hzs hsz v n xs hs hown B A m c news hx hr h1 h63 hbytes hbase fun v' w' h2 h3 h4 => hK _ _ (h v' w' h2 h3 h4)

theorem step_append_any {ops : Array Oper} {o : Oper} {a : Act} {K : Act → World → Prop} {Q : Exit → Act → World → Prop} {E : Prop} (hgd : o.guard = none) (s x : Operand) (t : TypeId)
    (ho : o.op = .call { callee := .builtin .append, args := #[s, x], argTypes := #[t, t] })
    (base : Nat) (e : TypeId) (i : TypeInfo) (z : Value) (size bytes : Nat) (ht : P.underlying t = some (.slice e)) (hi : P.info? e = some i) (hz : i.zero = some z)
    (hsize : i.size = size) (hby : i.bytes = bytes) (hzs : z.cells.size = size) (hsz : 0 < size)
    (v : Value) (n : Nat) (xs : List Value) (hs : a.eval s = v) (hown : w.ownsRow base e size v n xs)
    (B : Nat) (A : Option Addr) (m c : Nat) (news : List Value) (hx : a.eval x = .slice A m c) (hr : Reads w B size A m news) (h1 : ∀ u ∈ news, u.oneCell' = true)
    (h63 : n + m ≤ maxLen) (hbytes : (n + m) * bytes ≤ 140737488355328) (hbase : base ≤ w.heap.size)
    (h : ∀ v' w', w'.ownsRow base e size v' (n + m) (xs ++ news) → w.grownBy w' v.ownBlock → (v'.ownBlock = v.ownBlock ∨ v'.ownBlock = some w.heap.size) → K (a.put o.dst v') w') :
    if Region.wanted o (yielded ops a.tmps) = true then Oper.wp P o a w K Q else E := by
  have hw : Region.wanted o (yielded ops a.tmps) = true := by simp [Region.wanted, hgd]
  rw [if_pos hw]
  exact wp_append_any w s x t ho base e i z size bytes ht hi hz hsize hby hzs hsz v n xs hs hown B A m c news hx hr h1 h63 hbytes hbase h
end

/-- A row that is cut down to its first elements. -/
theorem own_cut {w : World} {base : Nat} {e : TypeId} {size g cap n m : Nat} {xs : List Value} (hm : m ≤ n)
    (h : w.ownsRow base e size (.slice (some ⟨g, 0, none⟩) n cap) n xs) : w.ownsRow base e size (.slice (some ⟨g, 0, none⟩) m cap) m (xs.take (m * size)) := by
  obtain ⟨hl, h2⟩ := h
  have hmn : m * size ≤ n * size := Nat.mul_le_mul_right _ hm
  rcases h2 with ⟨h0, _⟩ | ⟨g', cap', cur, hv, hg, hh, hn, hcap, hsz, htake⟩
  · cases h0
  · cases hv
    refine ⟨by rw [List.length_take]; omega, .inr ⟨g, cap, cur, rfl, hg, hh, by omega, hcap, hsz, ?_⟩⟩
    rw [← htake, List.take_take, Nat.min_eq_left hmn]

theorem own_shape {w : World} {base : Nat} {e : TypeId} {size n : Nat} {v : Value} {xs : List Value} (h : w.ownsRow base e size v n xs) : ∃ A cap, v = .slice A n cap ∧ n ≤ cap := by
  rcases h.2 with ⟨rfl, rfl⟩ | ⟨g, cap, cur, rfl, _, _, hn, _⟩
  · exact ⟨none, 0, rfl, Nat.le_refl _⟩
  · exact ⟨_, _, rfl, hn⟩
theorem own_form {w : World} {base : Nat} {e : TypeId} {size n cap : Nat} {A : Option Addr} {xs : List Value} (h : w.ownsRow base e size (.slice A n cap) n xs) (hn : 0 < n) : ∃ g, A = some ⟨g, 0, none⟩ ∧ g < w.heap.size ∧ base ≤ g := by
  obtain ⟨g, cap', e1, hb, hlt⟩ := h.form hn
  injection e1 with e1 _ _
  exact ⟨g, e1, hlt, hb⟩
theorem data_get (s : ByteArray) (j : Nat) (h : j < s.size) : s.data.toList.drop j = s[j] :: s.data.toList.drop (j + 1) := by
  rw [List.drop_eq_getElem_cons (by simpa using h)]
  rfl

theorem own_frozen {w : World} {base : Nat} {e : TypeId} {size g cap n : Nat} {xs : List Value} (h : w.ownsRow base e size (.slice (some ⟨g, 0, none⟩) n cap) n xs) (j : Nat) : w.frozen? ⟨g, j, none⟩ = false := by
  rcases h.2 with ⟨h0, _⟩ | ⟨g', cap', cur, hv, _, hh, _⟩
  · cases h0
  · cases hv
    simp [World.frozen?, hh]
/-- One element more, within the capacity. -/
theorem own_push {w : World} {base : Nat} {e : TypeId} {g cap n : Nat} {xs : List Value} (h : w.ownsRow base e 1 (.slice (some ⟨g, 0, none⟩) n cap) n xs) (hn : n < cap) (u : Value) :
    (w.setCell ⟨g, n, none⟩ u).ownsRow base e 1 (.slice (some ⟨g, 0, none⟩) (n + 1) cap) (n + 1) (xs ++ [u]) := by
  obtain ⟨hl, h2⟩ := h
  rcases h2 with ⟨h0, _⟩ | ⟨g', cap', cur, hv, hg, hh, hnc, hcap, hsz, htake⟩
  · cases h0
  · cases hv
    have hb : Blk w g e cur := hh
    refine ⟨by simp [hl], .inr ⟨g, cap, cur.setIfInBounds n u, rfl, hg, hb.set_ n u, by omega, hcap, by simpa using hsz, ?_⟩⟩
    have hlen : n < cur.toList.length := by simp; omega
    simp only [Nat.mul_one] at htake hl ⊢
    rw [Array.toList_setIfInBounds, List.take_add_one, List.take_set_of_le (Nat.le_refl n), htake, List.getElem?_set_self hlen]
    rfl
theorem own_setCell_block {w : World} {base : Nat} {e : TypeId} {size g cap n : Nat} {xs : List Value} (h : w.ownsRow base e size (.slice (some ⟨g, 0, none⟩) n cap) n xs) : ∃ cs, Blk w g e cs := by
  rcases h.2 with ⟨h0, _⟩ | ⟨g', cap', cur, hv, _, hh, _⟩
  · cases h0
  · cases hv
    exact ⟨cur, hh⟩

/-- The elements below an owned row's length, cell by cell. -/
theorem own_cell {w : World} {base : Nat} {e : TypeId} {g cap n : Nat} {xs : List Value} (h : w.ownsRow base e 1 (.slice (some ⟨g, 0, none⟩) n cap) n xs) (j : Nat) {u : Value} (hu : xs[j]? = some u) :
    w.cell? ⟨g, j, none⟩ = some u := by
  have := h.cells (g := g) rfl j u hu
  rwa [add_at] at this

/-- A pointer that stands for a tree: nil, or a block of the parts and the size. -/
def Rep (ty : TypeId) (w : World) : Option Addr → T → Prop
  | p, .nil => p = none
  | p, .pair a b => ∃ g pa pb, p = some ⟨g, 0, none⟩ ∧ Blk w g ty #[.pointer pa, .pointer pb, .int .i64 (T.pair a b).size] ∧ Rep ty w pa a ∧ Rep ty w pb b

/-- The blocks of one type of element are as they were. -/
def NK (ty : TypeId) (w w' : World) : Prop := ∀ g cs, Blk w g ty cs → Blk w' g ty cs

section
variable {ty : TypeId} {w w' w'' : World}
theorem NK.refl (ty : TypeId) (w : World) : NK ty w w := fun _ _ h => h
theorem NK.trans (h : NK ty w w') (h' : NK ty w' w'') : NK ty w w'' := fun g cs hb => h' g cs (h g cs hb)
theorem NK.drew (h : NK ty w w') : NK ty w w'.drew := h
theorem NK.drewN (h : NK ty w w') (n : Nat) : NK ty w (w'.drewN n) := h
theorem NK.alloc (h : NK ty w w') (o : Obj) : NK ty w (w'.alloc o) := fun g cs hb => (h g cs hb).alloc o
theorem NK.below (h : NK ty w w') (hb : Below w'.heap.size w' w'') : NK ty w w'' := fun g cs hg => (h g cs hg).below hb (h g cs hg).lt
theorem NK.of_below (hb : Below w.heap.size w w') : NK ty w w' := (NK.refl ty w).below hb
theorem NK.set_ (h : NK ty w w') {g : Nat} {t : TypeId} {cs : Array Value} (hb : Blk w' g t cs) (hne : ty ≠ t) (i : Nat) (s : Option Nat) (u : Value) : NK ty w (w'.setCell ⟨g, i, s⟩ u) :=
  fun k ds hk => (h k ds hk).far (p := ⟨g, i, s⟩) ((h k ds hk).ne_ hb hne) u
theorem NK.grown (h : NK ty w w') {base : Nat} {e : TypeId} {size n : Nat} {v : Value} {xs : List Value} (ho : w'.ownsRow base e size v n xs) (hne : e ≠ ty) (hg : w'.grownBy w'' v.ownBlock) : NK ty w w'' :=
  fun k cs hk => (h k cs hk).grown hg (fun e => own_blk_ne ho (h k cs hk) hne e.symm)

theorem Rep.kept : ∀ {t : T} {p : Option Addr}, Rep ty w p t → NK ty w w' → Rep ty w' p t
  | .nil, _, h, _ => h
  | .pair _ _, _, h, hk => by
    obtain ⟨g, pa, pb, hp, hb, ha, hb'⟩ := h
    exact ⟨g, pa, pb, hp, hk g _ hb, ha.kept hk, hb'.kept hk⟩
theorem Rep.drew {t : T} {p : Option Addr} (h : Rep ty w p t) : Rep ty w.drew p t := h.kept (NK.refl ty w).drew
theorem Rep.drewN {t : T} {p : Option Addr} (h : Rep ty w p t) (n : Nat) : Rep ty (w.drewN n) p t := h.kept ((NK.refl ty w).drewN n)
theorem Rep.alloc {t : T} {p : Option Addr} (h : Rep ty w p t) (o : Obj) : Rep ty (w.alloc o) p t := h.kept ((NK.refl ty w).alloc o)
theorem Rep.below {t : T} {p : Option Addr} (h : Rep ty w p t) (hb : Below w.heap.size w w') : Rep ty w' p t := h.kept (NK.of_below hb)
theorem Rep.nil_iff {p : Option Addr} {t : T} (h : Rep ty w p t) : p = none ↔ t = .nil := by
  cases t with
  | nil => simpa [Rep] using h
  | pair a b => obtain ⟨g, pa, pb, hp, _⟩ := h; simp [hp]
theorem Rep.pair_new {a b : T} {pa pb : Option Addr} (ha : Rep ty w pa a) (hb : Rep ty w pb b) :
    Rep ty (w.alloc (.cells #[.pointer pa, .pointer pb, .int .i64 (T.pair a b).size] ty)) (some ⟨w.heap.size, 0, none⟩) (.pair a b) :=
  ⟨w.heap.size, pa, pb, rfl, Blk.new w ty _, ha.alloc _, hb.alloc _⟩
theorem Rep.fun_ : ∀ {t t' : T} {p : Option Addr}, Rep ty w p t → Rep ty w p t' → t = t'
  | .nil, .nil, _, _, _ => rfl
  | .nil, .pair _ _, _, h, h' => by obtain ⟨g, pa, pb, hp, _⟩ := h'; simp [Rep] at h; simp [h] at hp
  | .pair _ _, .nil, _, h, h' => by obtain ⟨g, pa, pb, hp, _⟩ := h; simp [Rep] at h'; simp [h'] at hp
  | .pair a b, .pair a' b', _, h, h' => by
    obtain ⟨g, pa, pb, hp, hb, h1, h2⟩ := h
    obtain ⟨g', pa', pb', hp', hb', h1', h2'⟩ := h'
    rw [hp] at hp'
    injection hp' with hp'
    injection hp' with hg
    subst hg
    unfold Blk at hb hb'
    rw [hb] at hb'
    injection hb' with hb'
    injection hb' with hc
    simp at hc
    obtain ⟨rfl, rfl, _⟩ := hc
    rw [h1.fun_ h1', h2.fun_ h2']
end

/-- A list of pointers that stand for a list of trees. -/
inductive Reps (ty : TypeId) (w : World) : List (Option Addr) → List T → Prop
  | nil : Reps ty w [] []
  | cons {p : Option Addr} {t : T} {ps : List (Option Addr)} {ts : List T} : Rep ty w p t → Reps ty w ps ts → Reps ty w (p :: ps) (t :: ts)

section
variable {ty : TypeId} {w w' : World}
theorem Reps.len {ps : List (Option Addr)} {ts : List T} (h : Reps ty w ps ts) : ps.length = ts.length := by
  induction h with
  | nil => rfl
  | cons _ _ ih => simp [ih]
theorem Reps.kept {ps : List (Option Addr)} {ts : List T} (h : Reps ty w ps ts) (hk : NK ty w w') : Reps ty w' ps ts := by
  induction h with
  | nil => exact .nil
  | cons h _ ih => exact .cons (h.kept hk) ih
theorem Reps.get {ps : List (Option Addr)} {ts : List T} (h : Reps ty w ps ts) : ∀ (i : Nat) (t : T), ts[i]? = some t → ∃ p, ps[i]? = some p ∧ Rep ty w p t := by
  induction h with
  | nil => intro i t hi; simp at hi
  | cons hr _ ih =>
    intro i t hi
    match i, hi with
    | 0, hi => simp at hi; subst hi; exact ⟨_, rfl, hr⟩
    | i + 1, hi => simpa using ih i t (by simpa using hi)
theorem Reps.snoc {ps : List (Option Addr)} {ts : List T} {p : Option Addr} {t : T} (h : Reps ty w ps ts) (hp : Rep ty w p t) : Reps ty w (ps ++ [p]) (ts ++ [t]) := by
  induction h with
  | nil => exact .cons hp .nil
  | cons h _ ih => exact .cons h ih
theorem Reps.set_ {ps : List (Option Addr)} {ts : List T} {p : Option Addr} {t : T} (h : Reps ty w ps ts) (hp : Rep ty w p t) : ∀ i, Reps ty w (ps.set i p) (ts.set i t) := by
  induction h with
  | nil => intro i; exact .nil
  | cons h hh ih =>
    intro i
    match i with
    | 0 => exact .cons hp hh
    | i + 1 => exact .cons h (ih i)
end

theorem Reps.inv {ty : TypeId} {w : World} {p : Option Addr} {t : T} {ps : List (Option Addr)} {ts : List T} (h : Reps ty w (p :: ps) (t :: ts)) : Rep ty w p t ∧ Reps ty w ps ts := by
  cases h with
  | cons h hh => exact ⟨h, hh⟩
/-- The last pointer of a stack. -/
theorem Reps.top {ty : TypeId} {w : World} {ps : List (Option Addr)} {a : T} {r : List T} (h : Reps ty w ps.reverse (a :: r)) :
    ∃ pa ps0, ps = ps0 ++ [pa] ∧ ps0.length = r.length ∧ Rep ty w pa a ∧ Reps ty w ps0.reverse r := by
  cases hps : ps.reverse with
  | nil => rw [hps] at h; cases h
  | cons pa q =>
    rw [hps] at h
    obtain ⟨h1, h2⟩ := h.inv
    have e : ps = q.reverse ++ [pa] := by rw [← List.reverse_reverse ps, hps]; simp
    exact ⟨pa, q.reverse, e, by rw [List.length_reverse]; exact h2.len, h1, by simpa using h2⟩
/-- The last two pointers of a stack. -/
theorem Reps.top2 {ty : TypeId} {w : World} {ps : List (Option Addr)} {a b : T} {r : List T} (h : Reps ty w ps.reverse (a :: b :: r)) :
    ∃ pa pb ps0, ps = ps0 ++ [pb, pa] ∧ ps0.length = r.length ∧ Rep ty w pa a ∧ Rep ty w pb b ∧ Reps ty w ps0.reverse r := by
  obtain ⟨pa, ps1, rfl, _, ha, h1⟩ := h.top
  obtain ⟨pb, ps0, rfl, hl, hb, h2⟩ := h1.top
  exact ⟨pa, pb, ps0, by simp, hl, ha, hb, h2⟩

/-- The pointers as values. -/
def ptrs (ps : List (Option Addr)) : List Value := ps.map Value.pointer
theorem ptrs_one (ps : List (Option Addr)) : ∀ u ∈ ptrs ps, u.oneCell' = true := by
  intro u hu
  simp only [ptrs, List.mem_map] at hu
  obtain ⟨p, _, rfl⟩ := hu
  rfl

/-- What a function hands back that reads a tree out of a string: a pointer and whether there is a tree. -/
def Grown_ (ty : TypeId) (o : Option T) (w : World) (e : Ending) (w' : World) : Prop :=
  ∃ p, e = .returned (.tuple #[.pointer p, .bool o.isSome]) ∧ Below w.heap.size w w' ∧ (o = none → p = none) ∧ ∀ t, o = some t → Rep ty w' p t

/-- The head of a round of a reader: the trees of the string from place k on lie on the stack, the first one last. (ty: the nodes' type; el: the type of the stack's elements.) -/
def StkRel (ty el : TypeId) (s : ByteArray) (B : Nat) (w0 : World) (l i : Value) (wr : World) : Prop :=
  ∃ (k N : Nat) (ts : List T) (ps : List (Option Addr)), k ≤ s.size ∧ i = .int .i64 ((k : Int) - 1) ∧ stk (s.data.toList.drop k) = some ts ∧ N = ts.length ∧ Reps ty wr ps.reverse ts ∧ wr.ownsRow B el 1 l N (ptrs ps) ∧ Below B w0 wr

section
variable {ty el : TypeId} {s : ByteArray} {B : Nat} {w0 wr w' : World} {j N : Nat} {ts : List T} {ps : List (Option Addr)} {l l' : Value}
theorem StkRel.start : StkRel ty el s w0.heap.size w0 (.slice none 0 0) (.int .i64 ((s.size : Int) - 1)) w0 :=
  ⟨s.size, 0, [], [], Nat.le_refl _, rfl, by rw [List.drop_of_length_le (by simp)]; rfl, rfl, .nil, World.ownsRow_nil _ _ _ _, Below.refl _ _⟩

theorem StkRel.leaf (hj : j < s.size) (hc : s[j] = 48) (hN : N = ts.length) (hB : B ≤ wr.heap.size) (hne : el ≠ ty)
    (hst : stk (s.data.toList.drop (j + 1)) = some ts) (hr : Reps ty wr ps.reverse ts) (ho : wr.ownsRow B el 1 l N (ptrs ps)) (hb : Below B w0 wr) {o : Obj}
    (ho' : w'.ownsRow B el 1 l' (N + 1) (ptrs ps ++ [.pointer none])) (hg : (wr.alloc o).grownBy w' l.ownBlock) : StkRel ty el s B w0 l' (.int .i64 ((j : Int) - 1)) w' := by
  refine ⟨j, N + 1, .nil :: ts, ps ++ [none], by omega, rfl, ?_, by simp [hN], ?_, by simpa [ptrs] using ho', ?_⟩
  · rw [data_get s j hj, hc]; exact stk_zero hst
  · rw [List.reverse_append]
    exact .cons rfl (hr.kept (((NK.refl ty wr).alloc o).grown (ho.alloc o) hne hg))
  · exact (hb.alloc hB o).grown hg (by simp; omega) (fun k hk => (ho.lt k hk).1)

theorem StkRel.node {n g cap : Nat} {pa pb : Option Addr} {ps0 : List (Option Addr)} {a b : T} {r : List T} (hj : j < s.size) (hc : s[j] = 49) (hn : n = r.length) (hne : el ≠ ty)
    (hst : stk (s.data.toList.drop (j + 1)) = some (a :: b :: r)) (ra : Rep ty wr pa a) (rb : Rep ty wr pb b) (hr : Reps ty wr ps0.reverse r) (hl : ps0.length = n) (hcap : n < cap)
    (ho : wr.ownsRow B el 1 (.slice (some ⟨g, 0, none⟩) (n + 2) cap) (n + 2) (ptrs (ps0 ++ [pb, pa]))) (hb : Below B w0 wr) (hgB : B ≤ g) (hB : B ≤ wr.heap.size) {o : Obj} :
    StkRel ty el s B w0 (.slice (some ⟨g, 0, none⟩) (n + 1) cap) (.int .i64 ((j : Int) - 1))
      (((wr.setCell ⟨g, n, none⟩ (.pointer (some ⟨wr.heap.size, 0, none⟩))).alloc (.cells #[.pointer pa, .pointer pb, .int .i64 (T.pair a b).size] ty)).alloc o).drew := by
  obtain ⟨cs, hcs⟩ := own_setCell_block ho
  have hk : NK ty wr (wr.setCell ⟨g, n, none⟩ (.pointer (some ⟨wr.heap.size, 0, none⟩))) := (NK.refl ty wr).set_ hcs (Ne.symm hne) n none _
  have hsz : (wr.setCell ⟨g, n, none⟩ (.pointer (some ⟨wr.heap.size, 0, none⟩))).heap.size = wr.heap.size := by simp [World.setCell]
  refine ⟨j, n + 1, .pair a b :: r, ps0 ++ [some ⟨wr.heap.size, 0, none⟩], by omega, rfl, ?_, by simp [hn], ?_, ?_, ?_⟩
  · rw [data_get s j hj, hc]; exact stk_one hst
  · rw [List.reverse_append]
    have h := Rep.pair_new (ra.kept hk) (rb.kept hk)
    rw [hsz] at h
    exact .cons ((h.alloc o).drew) (hr.kept (((hk.alloc _).alloc o).drew))
  · have h := own_push (own_cut (m := n) (by omega) ho) (by omega) (.pointer (some ⟨wr.heap.size, 0, none⟩))
    have e : (ptrs (ps0 ++ [pb, pa])).take (n * 1) ++ [Value.pointer (some ⟨wr.heap.size, 0, none⟩)] = ptrs (ps0 ++ [some ⟨wr.heap.size, 0, none⟩]) := by
      simp [ptrs, ← hl]
    rw [e] at h
    exact ((h.alloc _).alloc o).drew
  · have h1 : Below B w0 (wr.setCell ⟨g, n, none⟩ (.pointer (some ⟨wr.heap.size, 0, none⟩))) := hb.setCell (p := ⟨g, n, none⟩) hgB _
    exact ((h1.alloc (by omega) _).alloc (by simp; omega) o).drew
end

/-! ### Writers: a tree as a string -/
def lenV : Value → Nat
  | .slice _ n _ => n
  | _ => 0
def byteVals (l : List UInt8) : List Value := l.map fun c => Value.int .u8 (c.toNat : Int)
theorem byteVals_one (l : List UInt8) : ∀ u ∈ byteVals l, u.oneCell' = true := by
  intro u hu
  simp only [byteVals, List.mem_map] at hu
  obtain ⟨c, _, rfl⟩ := hu
  rfl

/-- The head of a round of a writer: what has been written, and what is left on the stack. -/
def TxtRel (ty el bt : TypeId) (t : T) (B : Nat) (w0 : World) (out l : Value) (wr : World) : Prop :=
  ∃ (done : List UInt8) (M N : Nat) (ts : List T) (ps : List (Option Addr)), done ++ (ts.map T.bytes).flatten = t.bytes ∧ M = done.length ∧ N = ts.length ∧ Reps ty wr ps.reverse ts ∧
    wr.ownsRow B bt 1 out M (byteVals done) ∧ wr.ownsRow B el 1 l N (ptrs ps) ∧ Below B w0 wr

theorem flat_len_le (ts : List T) : ts.length ≤ ((ts.map T.bytes).flatten).length := by
  induction ts with
  | nil => simp
  | cons t ts ih => have := t.size_pos; have := t.bytes_length; simp at ih ⊢; omega

section
variable {ty el bt : TypeId} {t : T} {B : Nat} {w0 wr w' w'' : World} {M N n g cap : Nat} {done : List UInt8} {ts r : List T} {ps ps0 : List (Option Addr)} {out out' l' : Value} {pa p1 p2 : Option Addr} {a1 a2 : T}
theorem TxtRel.bound (h : done ++ (ts.map T.bytes).flatten = t.bytes) : done.length + ts.length ≤ t.size := by
  have h1 := congrArg List.length h
  have h2 := flat_len_le ts
  rw [List.length_append, T.bytes_length] at h1
  omega
theorem TxtRel.leaf (hd : done ++ ((T.nil :: r).map T.bytes).flatten = t.bytes) (hM : M = done.length) (hN : n = r.length) (hr : Reps ty wr ps0.reverse r) (hl0 : ps0.length = r.length)
    (ho : wr.ownsRow B bt 1 out M (byteVals done)) (hl : wr.ownsRow B el 1 (.slice (some ⟨g, 0, none⟩) (n + 1) cap) (n + 1) (ptrs (ps0 ++ [pa]))) (hb : Below B w0 wr) (hB : B ≤ wr.heap.size)
    (h1 : bt ≠ ty) (h2 : bt ≠ el) {o : Obj} (ho' : w'.ownsRow B bt 1 out' (M + 1) (byteVals done ++ [.int .u8 48])) (hg : (wr.alloc o).grownBy w' out.ownBlock) :
    TxtRel ty el bt t B w0 out' (.slice (some ⟨g, 0, none⟩) n cap) w' := by
  refine ⟨done ++ [48], M + 1, n, r, ps0, by simpa [T.bytes] using hd, by simp [hM], hN, ?_, by simpa [byteVals] using ho', ?_, ?_⟩
  · exact hr.kept (((NK.refl ty wr).alloc o).grown (ho.alloc o) h1 hg)
  · have hc := own_cut (m := n) (by omega) hl
    have e : (ptrs (ps0 ++ [pa])).take (n * 1) = ptrs ps0 := by simp [ptrs, hN, ← hl0]
    rw [e] at hc
    obtain ⟨cs, hcs⟩ := own_setCell_block (hc.alloc o)
    exact (hc.alloc o).kept hg (.inr (fun h => own_blk_ne (ho.alloc o) hcs h2 h.symm))
  · exact (hb.alloc hB o).grown hg (by simp; omega) (fun k hk => (ho.lt k hk).1)
theorem TxtRel.node (hd : done ++ ((T.pair a1 a2 :: r).map T.bytes).flatten = t.bytes) (hM : M = done.length) (hN : n = r.length) (hr : Reps ty wr ps0.reverse r)
    (ra1 : Rep ty wr p1 a1) (ra2 : Rep ty wr p2 a2)
    (ho : wr.ownsRow B bt 1 out M (byteVals done)) (hl : wr.ownsRow B el 1 (.slice (some ⟨g, 0, none⟩) (n + 1) cap) (n + 1) (ptrs (ps0 ++ [pa]))) (hb : Below B w0 wr) (hB : B ≤ wr.heap.size)
    (h1 : bt ≠ ty) (h2 : bt ≠ el) (h3 : el ≠ ty) {o o2 : Obj} (ho' : w'.ownsRow B bt 1 out' (M + 1) (byteVals done ++ [.int .u8 49])) (hg : (wr.alloc o).grownBy w' out.ownBlock)
    (hl' : w''.ownsRow B el 1 l' (n + 2) (ptrs ps0 ++ [.pointer p2, .pointer p1])) (hg2 : ((w'.alloc o2).drew).grownBy w'' (some g)) :
    TxtRel ty el bt t B w0 out' l' w'' := by
  have hcw' : w'.ownsRow B el 1 (.slice (some ⟨g, 0, none⟩) (n + 1) cap) (n + 1) (ptrs (ps0 ++ [pa])) := by
    obtain ⟨cs, hcs⟩ := own_setCell_block (hl.alloc o)
    exact (hl.alloc o).kept hg (.inr (fun h => own_blk_ne (ho.alloc o) hcs h2 h.symm))
  have hk1 : NK ty wr w' := ((NK.refl ty wr).alloc o).grown (ho.alloc o) h1 hg
  have hk2 : NK ty wr w'' := ((hk1.alloc o2).drew).grown ((hcw'.alloc o2).drew) h3 hg2
  have hb1 : Below B w0 w' := (hb.alloc hB o).grown hg (by simp; omega) (fun k hk => (ho.lt k hk).1)
  have hB1 : B ≤ w'.heap.size := by have := hg.size; simp at this; omega
  refine ⟨done ++ [49], M + 1, n + 2, a1 :: a2 :: r, ps0 ++ [p2, p1], ?_, by simp [hM], by simp [hN], ?_, ?_, by simpa [ptrs] using hl', ?_⟩
  · simpa [T.bytes] using hd
  · simp only [List.reverse_append, List.reverse_cons, List.reverse_nil, List.nil_append, List.cons_append]
    exact .cons (ra1.kept hk2) (.cons (ra2.kept hk2) (hr.kept hk2))
  · have : w''.ownsRow B bt 1 out' (M + 1) (byteVals done ++ [.int .u8 49]) :=
      ((ho'.alloc o2).drew).kept hg2 (.inr (fun h => by
        obtain ⟨cs, hcs⟩ := own_setCell_block ((hcw'.alloc o2).drew)
        exact own_blk_ne ((ho'.alloc o2).drew) hcs h2 h))
    simpa [byteVals] using this
  · exact ((hb1.alloc hB1 o2).drew).grown hg2 (by simp; omega) (fun k hk => by cases hk; exact (hl.lt g rfl).1)
end

end Go.Proofs.Ytgbieakahgkkpaa
