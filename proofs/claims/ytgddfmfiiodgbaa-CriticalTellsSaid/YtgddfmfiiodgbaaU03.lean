/- append onto a row of the call's own, the source nil or not; what a row owned reads as. -/
import Derived.Maps.AppendAt
import Derived.Deep.AppendLies
import Derived.RegionTactic
import Derived.OwnWalk
import Derived.Test.YtgddfmfiiodgbaaU01
import Derived.Test.YtgddfmfiiodgbaaProg
import Derived.Test.YtgddfmfiiodgbaaU02
namespace Go.Proofs.Ytgddfmfiiodgbaa
open Go Go.RowKit
set_option maxRecDepth 100000
set_option linter.unusedVariables false
set_option linter.unusedSimpArgs false

/-- An element type's row of the table. -/
structure EI (P : Program) (t e : TypeId) (z : Value) (size bytes : Nat) : Prop where
  ht : P.underlying t = some (.slice e)
  hinfo : (P.info? e).map (fun i => (i.zero, i.size, i.bytes)) = some (some z, size, bytes)
  hzs : z.cells.size = size
  hsz : 0 < size
  hby : 0 < bytes

section
variable {P : Program} {t e : TypeId} {z : Value} {size bytes : Nat}

theorem run_app (E : EI P t e z size bytes) (w : World) (ty : TypeId) (base : Nat) (v : Value) (n : Nat) (xs : List Value) (hown : w.ownsRow base e size v n xs)
    (A : Option Addr) (m c : Nat) (news : List Value) (hr : Reads w A news) (hl : news.length = m * size) (h1 : ∀ u ∈ news, u.oneCell' = true)
    (hb : (n + m) * bytes ≤ 140737488355328) (hbase : base ≤ w.heap.size) :
    ∃ v' w', (Builtin.append_ #[t, t] ty #[v, .slice A m c]).run P w = .ok v' w' ∧ w'.ownsRow base e size v' (n + m) (xs ++ news) ∧ w.grownBy w' v.ownBlock ∧
      (v'.ownBlock = v.ownBlock ∨ v'.ownBlock = some w.heap.size) := by
  obtain ⟨i, hi, hz, hsize, hbytes⟩ := info_parts E.hinfo
  cases A with
  | none =>
    have h0 : news = [] := by
      rcases hr with h | ⟨b, o, h, _⟩
      · exact h
      · cases h
    subst h0
    have hm : m = 0 := by
      have := E.hsz
      rcases Nat.mul_eq_zero.1 (show m * size = 0 by simpa using hl.symm) with h | h <;> omega
    subst hm
    refine ⟨v, w, ?_, by simpa using hown, World.grownBy.refl w _, .inl rfl⟩
    rcases hown.2 with ⟨rfl, rfl⟩ | ⟨g, cap, cur, rfl, _, _, hnc, _⟩
    · simp [Builtin.append_, run_underlying E.ht, sizeOf, typeInfo, hi, Builtin.lenOf, Builtin.firstCells]
    · simp [Builtin.append_, run_underlying E.ht, sizeOf, typeInfo, hi, Builtin.lenOf, Builtin.firstCells, hnc, storeCells]
  | some ad =>
    have hc : ∀ j u, news[j]? = some u → w.cell? (ad.add j) = some u := by
      intro j u hu
      rcases hr with h | ⟨b, o, h, _, hc⟩
      · subst h; simp at hu
      · injection h with h
        subst h
        have : (⟨b, o, none⟩ : Addr).add j = ⟨b, o + j, none⟩ := by unfold Addr.add; split <;> simp_all
        rw [this]
        exact hc j u hu
    have h63 : n + m ≤ maxLen := by
      have : (n + m) * 1 ≤ (n + m) * bytes := Nat.mul_le_mul_left _ E.hby
      unfold maxLen; omega
    obtain ⟨v', w', hrun, h2, h3, _, h5⟩ := run_append_own_at (P := P) w base t ty e i z size bytes E.ht hi hz hsize hbytes E.hzs E.hsz v n xs hown ad m c news hl hc h1 h63 hb hbase
    exact ⟨v', w', hrun, h2, h3, h5⟩

theorem wp_app (E : EI P t e z size bytes) {w : World} {o : Oper} {a : Act} {K : Act → World → Prop} {Q : Exit → Act → World → Prop} (s x : Operand)
    (ho : o.op = .call { callee := .builtin .append, args := #[s, x], argTypes := #[t, t] })
    (base : Nat) (v : Value) (n : Nat) (xs : List Value) (hs : a.eval s = v) (hown : w.ownsRow base e size v n xs)
    (A : Option Addr) (m c : Nat) (news : List Value) (hx : a.eval x = .slice A m c) (hr : Reads w A news) (hl : news.length = m * size) (h1 : ∀ u ∈ news, u.oneCell' = true)
    (hb : (n + m) * bytes ≤ 140737488355328) (hbase : base ≤ w.heap.size)
    (h : ∀ v' w', w'.ownsRow base e size v' (n + m) (xs ++ news) → w.grownBy w' v.ownBlock → (v'.ownBlock = v.ownBlock ∨ v'.ownBlock = some w.heap.size) → K (a.put o.dst v') w') : o.wp P a w K Q := by
  obtain ⟨v', w', hrun, h2, h3, h4⟩ := run_app E w o.type base v n xs hown A m c news hr hl h1 hb hbase
  unfold Oper.wp execOp
  simp only [ho, resolve, invoke, builtin, Sem.run_bind, Sem.run_pure, Result.andThen_ok, List.map_toArray, List.map_cons, List.map_nil, hs, hx, hrun]
  exact h v' w' h2 h3 h4

/-- In a plain region. -/
theorem wpList_app (E : EI P t e z size bytes) {w : World} {ops : Array Oper} {rest : List Oper} {o : Oper} {a : Act} {Q : Exit → Act → World → Prop} (hgd : o.guard = none) (s x : Operand)
    (ho : o.op = .call { callee := .builtin .append, args := #[s, x], argTypes := #[t, t] })
    (base : Nat) (v : Value) (n : Nat) (xs : List Value) (hs : a.eval s = v) (hown : w.ownsRow base e size v n xs)
    (A : Option Addr) (m c : Nat) (news : List Value) (hx : a.eval x = .slice A m c) (hr : Reads w A news) (hl : news.length = m * size) (h1 : ∀ u ∈ news, u.oneCell' = true)
    (hb : (n + m) * bytes ≤ 140737488355328) (hbase : base ≤ w.heap.size)
    (h : ∀ v' w', w'.ownsRow base e size v' (n + m) (xs ++ news) → w.grownBy w' v.ownBlock → (v'.ownBlock = v.ownBlock ∨ v'.ownBlock = some w.heap.size) → wpList P ops Q rest (a.put o.dst v') w') : wpList P ops Q (o :: rest) a w :=
  wpList_plain hgd fun _ hK => wp_app E s x ho base v n xs hs hown A m c news hx hr hl h1 hb hbase fun v' w' h2 h3 h4 => hK _ _ (h v' w' h2 h3 h4)

/-- At a step of a region that draws. -/
theorem step_app (E : EI P t e z size bytes) {w : World} {ops : Array Oper} {o : Oper} {a : Act} {K : Act → World → Prop} {Q : Exit → Act → World → Prop} {F : Prop} (hgd : o.guard = none) (s x : Operand)
    (ho : o.op = .call { callee := .builtin .append, args := #[s, x], argTypes := #[t, t] })
    (base : Nat) (v : Value) (n : Nat) (xs : List Value) (hs : a.eval s = v) (hown : w.ownsRow base e size v n xs)
    (A : Option Addr) (m c : Nat) (news : List Value) (hx : a.eval x = .slice A m c) (hr : Reads w A news) (hl : news.length = m * size) (h1 : ∀ u ∈ news, u.oneCell' = true)
    (hb : (n + m) * bytes ≤ 140737488355328) (hbase : base ≤ w.heap.size)
    (h : ∀ v' w', w'.ownsRow base e size v' (n + m) (xs ++ news) → w.grownBy w' v.ownBlock → (v'.ownBlock = v.ownBlock ∨ v'.ownBlock = some w.heap.size) → K (a.put o.dst v') w') :
    if Region.wanted o (yielded ops a.tmps) = true then Oper.wp P o a w K Q else F := by
  have hw : Region.wanted o (yielded ops a.tmps) = true := by simp [Region.wanted, hgd]
  rw [if_pos hw]
  exact wp_app E s x ho base v n xs hs hown A m c news hx hr hl h1 hb hbase h

/-- What is owned reads as what it holds. -/
theorem own_reads0 {w : World} {base : Nat} {v : Value} {n : Nat} {xs : List Value} (h : w.ownsRow base e size v n xs) :
    ∃ A c, v = .slice A n c ∧ n ≤ c ∧ Reads w A xs := by
  obtain ⟨h0, h2⟩ := h
  rcases h2 with ⟨rfl, rfl⟩ | ⟨g, cap, cur, rfl, hg, hh, hnc, _, hsz, htk⟩
  · exact ⟨none, 0, rfl, Nat.le_refl _, .inl (List.eq_nil_of_length_eq_zero (by simpa using h0))⟩
  · refine ⟨_, cap, rfl, hnc, .inr ⟨g, 0, rfl, ?_, fun j u hu => ?_⟩⟩
    · rcases Nat.lt_or_ge g w.heap.size with hl | hl
      · exact hl
      · rw [Array.getElem?_eq_none hl] at hh; cases hh
    · rw [Nat.zero_add, cell_of_row w g j cur e (0, 0) hh]
      rw [← htk] at hu
      have hj : j < (cur.toList.take (n * size)).length := (List.getElem?_eq_some_iff.1 hu).1
      rw [List.getElem?_take] at hu
      split at hu
      · simpa using hu
      · cases hu

theorem own_far {w w' : World} {base : Nat} {v : Value} {n : Nat} {xs : List Value} (h : w.ownsRow base e size v n xs) (hk : ∀ g, v.ownBlock = some g → w'.heap[g]? = w.heap[g]?) : w'.ownsRow base e size v n xs := by
  obtain ⟨h1, h2⟩ := h
  refine ⟨h1, ?_⟩
  rcases h2 with h2 | ⟨g, cap, cur, rfl, hg, hh, r⟩
  · exact .inl h2
  · exact .inr ⟨g, cap, cur, rfl, hg, (hk g (by simp [Value.ownBlock])).trans hh, r⟩

theorem own_lt0 {w : World} {base : Nat} {v : Value} {n : Nat} {xs : List Value} (h : w.ownsRow base e size v n xs) (g : Nat) (hg : v.ownBlock = some g) : base ≤ g ∧ g < w.heap.size := by
  rcases h.2 with ⟨rfl, _⟩ | ⟨g', cap, cur, rfl, hb, hh, _⟩
  · simp [Value.ownBlock] at hg
  · obtain rfl : g' = g := by simpa [Value.ownBlock] using hg
    refine ⟨hb, ?_⟩
    rcases Nat.lt_or_ge g' w.heap.size with hl | hl
    · exact hl
    · rw [Array.getElem?_eq_none hl] at hh; cases hh

theorem own_below0 {w w' : World} {base : Nat} {v : Value} {n : Nat} {xs : List Value} (h : w.ownsRow base e size v n xs) (hb : Below w.heap.size w w') : w'.ownsRow base e size v n xs :=
  own_far h fun g hg => hb.block g (own_lt0 h g hg).2

theorem own_nil0 (w : World) (base : Nat) (e : TypeId) (size : Nat) : w.ownsRow base e size (.slice none 0 0) 0 [] := ⟨by simp, .inl ⟨rfl, rfl⟩⟩
end

theorem Reads.cut {w : World} {A : Option Addr} {cs : List Value} (h : Reads w A cs) (c lo hi size : Nat) (hl : lo ≤ hi) (hc : hi * size ≤ cs.length) (hcap : cs.length ≤ c * size) (hs : 0 < size) :
    Reads w (if c = lo then A else A.map (·.add (lo * size))) ((cs.take (hi * size)).drop (lo * size)) := by
  rcases h with h | ⟨b, o, rfl, hb, hcs⟩
  · subst h; exact .inl (by simp)
  · by_cases e : c = lo
    · subst e
      refine .inl ?_
      have := Nat.mul_le_mul_right size hl
      simp
      omega
    · rw [if_neg e]
      refine .inr ⟨b, o + lo * size, ?_, hb, fun j v hj => ?_⟩
      · have : (⟨b, o, none⟩ : Addr).add (lo * size) = ⟨b, o + lo * size, none⟩ := by unfold Addr.add; split <;> simp_all
        simp [this]
      · rw [Nat.add_assoc]
        refine hcs _ v ?_
        rw [List.getElem?_drop, List.getElem?_take] at hj
        split at hj
        · exact hj
        · cases hj

theorem reads_new (w : World) (cs : List Value) (t : TypeId) : Reads (w.alloc (.cells cs.toArray t)) (some ⟨w.heap.size, 0, none⟩) cs := by
  refine .inr ⟨_, 0, rfl, by simp, fun j v hj => ?_⟩
  rw [Nat.zero_add, cell_of_row (w.alloc (.cells cs.toArray t)) w.heap.size j cs.toArray t (0, 0) (heap_alloc_new w _)]
  simpa using hj
theorem Reads.drew0 {w : World} {A : Option Addr} {cs : List Value} (h : Reads w A cs) : Reads w.drew A cs := h
theorem Reads.drewN0 {w : World} {A : Option Addr} {cs : List Value} (h : Reads w A cs) (n : Nat) : Reads (w.drewN n) A cs := h
theorem blk2 {w : World} {g : Nat} {a b : Value} {T : TypeId} (h : w.heap[g]? = some (.cells #[a, b] T (0, 0))) :
    w.cell? ⟨g, 0, none⟩ = some a ∧ w.cell? ⟨g, 1, none⟩ = some b ∧ w.frozen? ⟨g, 0, none⟩ = false ∧ w.frozen? ⟨g, 1, none⟩ = false ∧ g < w.heap.size := by
  refine ⟨?_, ?_, ?_, ?_, ?_⟩
  · rw [cell_of_row w g 0 _ T (0, 0) h]; rfl
  · rw [cell_of_row w g 1 _ T (0, 0) h]; rfl
  · simp [World.frozen?, h]
  · simp [World.frozen?, h]
  · rcases Nat.lt_or_ge g w.heap.size with hl | hl
    · exact hl
    · rw [Array.getElem?_eq_none hl] at h; cases h
theorem heap_old {w : World} {g : Nat} {o o' : Obj} (h : w.heap[g]? = some o) : (w.alloc o').heap[g]? = some o := by
  have hl : g < w.heap.size := by
    rcases Nat.lt_or_ge g w.heap.size with hl | hl
    · exact hl
    · rw [Array.getElem?_eq_none hl] at h; cases h
  rw [Below.heap_alloc w o' g hl]; exact h
theorem own_set {w : World} {base e size : Nat} {v : Value} {n : Nat} {xs : List Value} (h : w.ownsRow base e size v n xs) {a : Addr} (ha : a.block < base) (u : Value) : (w.setCell a u).ownsRow base e size v n xs :=
  own_far h fun g hg => Below.heap_setCell _ _ _ _ (by have := (own_lt0 h g hg).1; omega)
theorem heap_set2 {w : World} {g : Nat} {a b : Value} {T : TypeId} (h : w.heap[g]? = some (.cells #[a, b] T (0, 0))) (x y : Value) :
    ((w.setCell ⟨g, 0, none⟩ x).setCell ⟨g, 1, none⟩ y).heap[g]? = some (.cells #[x, y] T (0, 0)) := by
  simp [World.setCell, Array.getElem?_modify, h]
theorem heap_far {w : World} {g : Nat} {o : Obj} (h : w.heap[g]? = some o) {a : Addr} (ha : g ≠ a.block) (x : Value) : (w.setCell a x).heap[g]? = some o := (Below.heap_setCell _ _ _ _ ha).trans h
theorem own_cast {w : World} {base base' e size : Nat} {v : Value} {n n' : Nat} {xs xs' : List Value} (h : w.ownsRow base e size v n xs) (hb : base' ≤ base) (hn : n = n') (hx : xs = xs') : w.ownsRow base' e size v n' xs' := by
  subst hn hx
  obtain ⟨h1, h2⟩ := h
  refine ⟨h1, ?_⟩
  rcases h2 with h2 | ⟨g, cap, cur, rfl, hg, r⟩
  · exact .inl h2
  · exact .inr ⟨g, cap, cur, rfl, Nat.le_trans hb hg, r⟩
theorem below_app {B : Nat} {w w0 w1 : World} {v : Value} (h : Below B w w0) (hg : w0.grownBy w1 v.ownBlock) (hB : B ≤ w0.heap.size) (hv : ∀ g, v.ownBlock = some g → B ≤ g) : Below B w w1 := h.grown hg hB hv

theorem Reads.grown {w w' : World} {A : Option Addr} {cs : List Value} {row : Option Nat} (h : Reads w A cs) (hg : w.grownBy w' row) (hne : ∀ a, A = some a → row ≠ some a.block) : Reads w' A cs := by
  rcases h with h | ⟨b, o, rfl, hb, hc⟩
  · exact .inl h
  · exact .inr ⟨b, o, rfl, Nat.lt_of_lt_of_le hb hg.size, fun j v hj => (World.cell?_of_block (hg.block b hb (fun e => hne _ rfl e.symm))).trans (hc j v hj)⟩
/-- Block b is a row of numbers, whole. -/
def RowI (w : World) (T : TypeId) (b : Nat) (l : List Int) : Prop := w.heap[b]? = some (.cells (icells l).toArray T (0, 0))
theorem RowI.lt {w : World} {T : TypeId} {b : Nat} {l : List Int} (h : RowI w T b l) : b < w.heap.size := by
  rcases Nat.lt_or_ge b w.heap.size with hl | hl
  · exact hl
  · unfold RowI at h; rw [Array.getElem?_eq_none hl] at h; cases h
theorem RowI.cell {w : World} {T : TypeId} {b : Nat} {l : List Int} (h : RowI w T b l) {i : Nat} {x : Int} (hx : l[i]? = some x) : w.cell? ⟨b, i, none⟩ = some (.int .i64 x) := by
  rw [cell_of_row w b i _ T (0, 0) h]
  simp [icells, hx]
theorem RowI.frozen {w : World} {T : TypeId} {b : Nat} {l : List Int} (h : RowI w T b l) (i : Nat) : w.frozen? ⟨b, i, none⟩ = false := by
  unfold RowI at h
  simp [World.frozen?, h]
theorem RowI.set {w : World} {T : TypeId} {b : Nat} {l : List Int} (h : RowI w T b l) (i : Nat) (x : Int) : RowI (w.setCell ⟨b, i, none⟩ (.int .i64 x)) T b (l.set i x) := by
  unfold RowI at *
  simp [World.setCell, Array.getElem?_modify, h, icells, List.map_set]
theorem RowI.far {w : World} {T : TypeId} {b : Nat} {l : List Int} (h : RowI w T b l) {a : Addr} (ha : b ≠ a.block) (u : Value) : RowI (w.setCell a u) T b l := (Below.heap_setCell _ _ _ _ ha).trans h
theorem RowI.old {w : World} {T : TypeId} {b : Nat} {l : List Int} (h : RowI w T b l) (o : Obj) : RowI (w.alloc o) T b l := (Below.heap_alloc w o b h.lt).trans h
theorem RowI.below {w w' : World} {T : TypeId} {b : Nat} {l : List Int} (h : RowI w T b l) {B : Nat} (hb : Below B w w') (hB : b < B) : RowI w' T b l := (hb.block b hB).trans h
theorem RowI.reads {w : World} {T : TypeId} {b : Nat} {l : List Int} (h : RowI w T b l) : Reads w (some ⟨b, 0, none⟩) (icells l) :=
  .inr ⟨b, 0, rfl, h.lt, fun j v hj => by
    rw [Nat.zero_add, cell_of_row w b j _ T (0, 0) h]
    simpa using hj⟩
theorem made_zero (n : Nat) : madeCells #[.int .i64 0] n = (icells (List.replicate n 0)).toArray := by
  apply Array.ext
  · simp [madeCells, icells]
  · intro i h1 h2
    simp [madeCells, icells, Nat.mod_one]

end Go.Proofs.Ytgddfmfiiodgbaa

/- Walks of the small functions of graph. -/
namespace Go.Proofs.Ytgddfmfiiodgbaa
open Go Go.RowKit
set_option maxRecDepth 100000
set_option linter.unusedVariables false
set_option linter.unusedSimpArgs false

theorem EI_edge : EI Try.prog 23 49 (.agg #[.int .i64 0, .int .i64 0]) 2 16 := ⟨Try.underlying23, by kernel_rfl, rfl, by decide, by decide⟩
theorem EI_int : EI Try.prog 22 3 (.int .i64 0) 1 8 := ⟨Try.underlying22, by kernel_rfl, rfl, by decide, by decide⟩


theorem cmpInt (a b : Int) (w : World) :
    Calls Try.prog 164 #[.int .i64 a, .int .i64 b] w fun e w' => e = .returned (.int .i64 (if a < b then -1 else if b < a then 1 else 0)) ∧ w = w' := by
  by_cases h : a < b
  · go_enter Try.func164, Try.ntmps164
    go_wp2
    go_ret
    simp
  · by_cases h' : b < a
    · go_enter Try.func164, Try.ntmps164
      go_wp2
      go_ret
      simp
    · go_enter Try.func164, Try.ntmps164
      go_wp2
      go_ret
      simp

theorem aheadE (a b c d : Int) (w : World) :
    Calls Try.prog 103 #[.agg #[.int .i64 a, .int .i64 b], .agg #[.int .i64 c, .int .i64 d]] w fun e w' => e = .returned (.bool (decide (a < c ∨ a = c ∧ b < d))) ∧ Below w.heap.size w w' := by
  by_cases h : a < c
  · go_enter Try.func103, Try.ntmps103
    go_wp2
    go_ret
    exact ⟨by simp [h], by go_grown⟩
  · by_cases h' : a = c
    · subst h'
      go_enter Try.func103, Try.ntmps103
      go_wp2
      go_ret
      exact ⟨by simp, by go_grown⟩
    · have h2 : (a == c) = false := by simpa using h'
      go_enter Try.func103, Try.ntmps103
      go_wp2
      go_ret
      exact ⟨by simp; omega, by go_grown⟩

theorem or2 (x y : Int) (g : Nat) (w : World) (h0 : w.cell? ⟨g, 0, none⟩ = some (.int .i64 x)) (h1 : w.cell? ⟨g, 1, none⟩ = some (.int .i64 y)) :
    Calls Try.prog 163 #[.slice (some ⟨g, 0, none⟩) 2 2] w fun e w' => e = .returned (.int .i64 (if x = 0 then y else x)) ∧ w = w' := by
  by_cases hx : x = 0
  · subst hx
    by_cases hy : y = 0
    · subst hy
      go_enter Try.func163, Try.ntmps163
      go_wp2
      go_rounds 3
      go_ret
      simp
    · have hy' : (y != 0) = true := by simpa using hy
      go_enter Try.func163, Try.ntmps163
      go_wp2
      go_rounds 3
      go_ret
      simp
  · have hx' : (x != 0) = true := by simpa using hx
    go_enter Try.func163, Try.ntmps163
    go_wp2
    go_rounds 3
    go_ret
    simp

theorem compareE (a b c d : Int) (w : World) :
    Calls Try.prog 133 #[.agg #[], .agg #[.int .i64 a, .int .i64 b], .agg #[.int .i64 c, .int .i64 d]] w fun e w' => e = .returned (.int .i64 (cmpE a b c d)) ∧ Below w.heap.size w w' := by
  have H1 := cmpE_eq a b c d
  obtain ⟨p, hp⟩ : ∃ p : Int, p = (if a < c then (-1 : Int) else if c < a then 1 else 0) := ⟨_, rfl⟩
  obtain ⟨q, hq⟩ : ∃ p : Int, p = (if b < d then (-1 : Int) else if d < b then 1 else 0) := ⟨_, rfl⟩
  rw [← hp, ← hq] at H1
  obtain ⟨r, hr⟩ : ∃ r : Int, r = if p = 0 then q else p := ⟨_, rfl⟩
  have C1 := fun W => cmpInt a c W
  have C2 := fun W => cmpInt b d W
  have C3 := fun g W h0 h1 => or2 p q g W h0 h1
  rw [← hp] at C1
  rw [← hq] at C2
  rw [← hr] at C3 H1
  clear hp hq hr
  rw [← H1]
  clear H1
  go_enter Try.func133, Try.ntmps133
  go_wp2_with fail
  refine wp_tail 10 (by kernel_rfl) (by kernel_rfl) ?_
  simp only [List.take_succ_cons, List.take_zero, List.drop_succ_cons, List.drop_zero]
  repeat (first | still_step | (refine wpStill_step (fun K hK => ?_); go_simp; with_reducible refine ⟨_, flip_w (C1 _), hK _ ?_⟩; clear hK K)  | (refine wpStill_step (fun K hK => ?_); go_simp; with_reducible refine ⟨_, flip_w (C2 _), hK _ ?_⟩; clear hK K))
  refine wpStill_nil ?_
  clear C1 C2
  go_wp2_with fail
  with_reducible refine (C3 _ _ ?_ ?_).mono ?_
  · simp [go_sem]
  · simp [go_sem]
  rintro e w' ⟨rfl, rfl⟩
  clear C3
  go_wp2_with fail
  go_ret
  exact ⟨rfl, by go_grown⟩

end Go.Proofs.Ytgddfmfiiodgbaa

/- The walk of graph.Right. -/

namespace Go.Proofs.Ytgddfmfiiodgbaa
open Go Go.RowKit
set_option maxRecDepth 100000
set_option linter.unusedVariables false
set_option linter.unusedSimpArgs false

set_option maxHeartbeats 2000000 in
theorem right_any (n : Int) (es : List (Int × Int)) (A : Option Addr) (c : Nat) (w : World) (hr : Reads w A (pcells es)) (hc : es.length ≤ c) (hm : es.length ≤ 4611686018427387903) :
    Calls Try.prog 91 #[.agg #[.int .i64 n, .slice A es.length c]] w fun e w' => e = .returned (.bool (rightB n es)) ∧ Below w.heap.size w w' := by
  by_cases h1 : n < 0
  · have HR : rightB n es = false := by simp [rightB]; omega
    rw [HR]; clear HR
    go_enter Try.func91, Try.ntmps91
    go_wp2
    go_ret
    exact ⟨rfl, by go_grown⟩
  by_cases h2 : 4096 < n
  · have HR : rightB n es = false := by simp [rightB]; omega
    rw [HR]; clear HR
    go_enter Try.func91, Try.ntmps91
    go_wp2
    go_ret
    exact ⟨rfl, by go_grown⟩
  by_cases h3 : 65536 < es.length
  · have HR : rightB n es = false := by simp [rightB]; omega
    rw [HR]; clear HR
    have h3' : decide ((65536 : Int) < (es.length : Int)) = true := decide_eq_true (by omega)
    go_enter Try.func91, Try.ntmps91
    go_wp2
    go_ret
    exact ⟨rfl, by go_grown⟩
  have h3' : decide ((65536 : Int) < (es.length : Int)) = false := decide_eq_false (by omega)
  go_enter Try.func91, Try.ntmps91
  go_wp2
  generalize hW : w.alloc (Obj.cells #[Value.int IntKind.i64 n, Value.slice A es.length c] 25) = W
  have hbW : Below w.heap.size w W := by rw [← hW]; go_grown
  have hr1 := hr.below hbW
  have hg0 : W.cell? ⟨w.heap.size, 0, none⟩ = some (.int .i64 n) := by rw [← hW]; simp [go_sem]
  have hg1 : W.cell? ⟨w.heap.size, 1, none⟩ = some (.slice A es.length c) := by rw [← hW]; simp [go_sem]
  have hgW : w.heap.size < W.heap.size := by rw [← hW]; simp
  clear hW hr
  go_loopw [25] (fun i wr => ∃ k : Nat, k ≤ es.length ∧ i = .int .i64 k ∧ Hid (∀ j, j < k → okAt n es j = true) ∧ Below W.heap.size W wr) (fun i _ => es.length - (intOf i).toNat)
  case atStart => exact ⟨0, Nat.zero_le _, rfl, fun j hj => by omega, Below.refl _ _⟩
  case round =>
    obtain ⟨k, hk, rfl, hok, hb⟩ := hrel
    have hg0' := (hb.cell (p := ⟨w.heap.size, 0, none⟩) hgW).trans hg0
    have hg1' := (hb.cell (p := ⟨w.heap.size, 1, none⟩) hgW).trans hg1
    have hfin : ∀ w', Below W.heap.size wr w' → Below w.heap.size w w' := fun w' h' => hbW.trans ((hb.trans h').mono hbW.size)
    have hWr : W.heap.size ≤ wr.heap.size := hb.size
    have hgr : w.heap.size < wr.heap.size := Nat.lt_of_lt_of_le hgW hb.size
    by_cases hlt : k < es.length
    · obtain ⟨⟨x, y⟩, hxy⟩ : ∃ e, es[k]? = some e := ⟨es[k], by simp [hlt]⟩
      obtain ⟨b, o, rfl, hbl, e1, e2⟩ := (hr1.below hb).pair' k _ hxy
      have HXY := Lib.hid hxy
      clear hxy
      go_wp2_with fail
      by_cases k1 : x < 0
      · (refine wp_quiet_tail 29 (by kernel_rfl) (by kernel_rfl) ?_
         simp only [List.take_succ_cons, List.take_zero, List.drop_succ_cons, List.drop_zero]
         repeat (go_big_quiet_step (fail))
         refine wpQuiet_nil ?_
         intro _ hw'
         obtain ⟨nq, hw''⟩ := hw'
         subst hw'')
        go_wp2_with fail
        go_ret
        refine ⟨?_, hfin _ (by (repeat (first | with_reducible exact Below.refl _ _ | with_reducible assumption | with_reducible refine below_drewN0 ?_ _ | with_reducible refine Below.drew ?_ | with_reducible refine Below.alloc ?_ ?_ _ | with_reducible refine Below.setCell ?_ ?_ _ | go_size | exact Below.size (by assumption))))⟩
        rw [right_no n es k hlt (okAt_no HXY.out (by omega))]; rfl
      by_cases k2 : y ≤ x
      · (refine wp_quiet_tail 29 (by kernel_rfl) (by kernel_rfl) ?_
         simp only [List.take_succ_cons, List.take_zero, List.drop_succ_cons, List.drop_zero]
         repeat (go_big_quiet_step (fail))
         refine wpQuiet_nil ?_
         intro _ hw'
         obtain ⟨nq, hw''⟩ := hw'
         subst hw'')
        go_wp2_with fail
        go_ret
        refine ⟨?_, hfin _ (by (repeat (first | with_reducible exact Below.refl _ _ | with_reducible assumption | with_reducible refine below_drewN0 ?_ _ | with_reducible refine Below.drew ?_ | with_reducible refine Below.alloc ?_ ?_ _ | with_reducible refine Below.setCell ?_ ?_ _ | go_size | exact Below.size (by assumption))))⟩
        rw [right_no n es k hlt (okAt_no HXY.out (by omega))]; rfl
      by_cases k3 : n ≤ y
      · (refine wp_quiet_tail 29 (by kernel_rfl) (by kernel_rfl) ?_
         simp only [List.take_succ_cons, List.take_zero, List.drop_succ_cons, List.drop_zero]
         repeat (go_big_quiet_step (fail))
         refine wpQuiet_nil ?_
         intro _ hw'
         obtain ⟨nq, hw''⟩ := hw'
         subst hw'')
        go_wp2_with fail
        go_ret
        refine ⟨?_, hfin _ (by (repeat (first | with_reducible exact Below.refl _ _ | with_reducible assumption | with_reducible refine below_drewN0 ?_ _ | with_reducible refine Below.drew ?_ | with_reducible refine Below.alloc ?_ ?_ _ | with_reducible refine Below.setCell ?_ ?_ _ | go_size | exact Below.size (by assumption))))⟩
        rw [right_no n es k hlt (okAt_no HXY.out (by omega))]; rfl
      by_cases k4 : k = 0
      · subst k4
        (refine wp_quiet_tail 29 (by kernel_rfl) (by kernel_rfl) ?_
         simp only [List.take_succ_cons, List.take_zero, List.drop_succ_cons, List.drop_zero]
         repeat (go_big_quiet_step (fail))
         refine wpQuiet_nil ?_
         intro _ hw'
         obtain ⟨nq, hw''⟩ := hw'
         subst hw'')
        go_wp2_with fail
        go_roundw
        case rel => exact ⟨1, by omega, rfl, Lib.hid (one_ok (p := fun j => okAt n es j = true) (okAt_zero (n := n) HXY.out (by omega) (by omega) (by omega))), hb.trans (by (repeat (first | with_reducible exact Below.refl _ _ | with_reducible assumption | with_reducible refine below_drewN0 ?_ _ | with_reducible refine Below.drew ?_ | with_reducible refine Below.alloc ?_ ?_ _ | with_reducible refine Below.setCell ?_ ?_ _ | go_size | exact Below.size (by assumption))))⟩
        case measure => simp [intOf]; omega
      obtain ⟨j, rfl⟩ : ∃ j, k = j + 1 := ⟨k - 1, by omega⟩
      obtain ⟨⟨x', y'⟩, hxy'⟩ : ∃ e, es[j]? = some e := ⟨es[j], by simp⟩
      obtain ⟨b', o', hbo, hbl', e1', e2'⟩ := (hr1.below hb).pair' j _ hxy'
      have HXY' := Lib.hid hxy'
      clear hxy'
      obtain ⟨rfl, rfl⟩ : b' = b ∧ o' = o := by simpa using hbo.symm
      clear hbo
      have HS := Lib.hid (okAt_succ (n := n) HXY.out HXY'.out (by omega) (by omega) (by omega))
      generalize hcp : cmpE x' y' x y = cp at HS
      (refine wp_quiet_tail 29 (by kernel_rfl) (by kernel_rfl) ?_
       simp only [List.take_succ_cons, List.take_zero, List.drop_succ_cons, List.drop_zero]
       repeat (go_big_quiet_step (fail))
       refine wpQuiet_nil ?_
       intro _ hw'
       obtain ⟨nq, hw''⟩ := hw'
       subst hw'')
      go_wp2_with (go_at_call 133; refine (compareE x' y' x y _).mono ?_; rw [hcp]; rintro e w1 ⟨rfl, hb1⟩)
      · have hcp0 : 0 ≤ cp := by assumption
        go_ret
        refine ⟨?_, hfin _ ?_⟩
        · rw [right_no n es (j + 1) hlt (by rw [HS.out]; simpa using hcp0)]; rfl
        · exact Below.trans (by (repeat (first | with_reducible exact Below.refl _ _ | with_reducible assumption | with_reducible refine below_drewN0 ?_ _ | with_reducible refine Below.drew ?_ | with_reducible refine Below.alloc ?_ ?_ _ | with_reducible refine Below.setCell ?_ ?_ _ | go_size | exact Below.size (by assumption)))) (hb1.mono (by simp; omega))
      · have hcp0 : cp < 0 := by assumption
        go_roundw
        case rel => exact ⟨j + 1 + 1, by omega, by go_num, Lib.hid (succ_ok (p := fun j => okAt n es j = true) hok.out (by rw [HS.out]; simpa using hcp0)), hb.trans (Below.trans (by (repeat (first | with_reducible exact Below.refl _ _ | with_reducible assumption | with_reducible refine below_drewN0 ?_ _ | with_reducible refine Below.drew ?_ | with_reducible refine Below.alloc ?_ ?_ _ | with_reducible refine Below.setCell ?_ ?_ _ | go_size | exact Below.size (by assumption)))) (hb1.mono (by simp; omega)))⟩
        case measure => simp [intOf]; omega
    · go_wp2_with fail
      go_ret
      exact ⟨by rw [right_yes n es h1 h2 (by omega) (fun j hj => hok.out j (by omega))]; rfl, hfin _ (Below.refl _ _)⟩

end Go.Proofs.Ytgddfmfiiodgbaa
