/- A forest in memory: its record, its rows, the vertices that wait. -/
import Derived.Test.YtgddfmfiiodgbaaU04
import Derived.Test.YtgddfmfiiodgbaaU05
import Derived.Test.YtgddfmfiiodgbaaU06
import Derived.ArgAppend
import Derived.Test.YtgddfmfiiodgbaaU01
namespace Go.Proofs.Ytgddfmfiiodgbaa
open Go Go.RowKit
set_option maxRecDepth 100000
set_option linter.unusedVariables false
set_option linter.unusedSimpArgs false

/-- A row of n things. -/
def rowOf (n : Nat) (g : Nat → Value) : List Value := (List.range n).map g
theorem rowOf_length (n : Nat) (g : Nat → Value) : (rowOf n g).length = n := by simp [rowOf]
theorem rowOf_get {n : Nat} (g : Nat → Value) {i : Nat} (h : i < n) : (rowOf n g)[i]? = some (g i) := by simp [rowOf, h]
theorem rowOf_congr {n : Nat} {g g' : Nat → Value} (h : ∀ i, i < n → g i = g' i) : rowOf n g = rowOf n g' := List.map_congr_left fun i hi => h i (List.mem_range.1 hi)
theorem rowOf_set {n : Nat} (g : Nat → Value) (i : Nat) (x : Value) : (rowOf n g).set i x = rowOf n (upd g i x) := by
  apply List.ext_getElem?
  intro j
  rw [List.getElem?_set]
  by_cases hj : i = j
  · subst hj
    by_cases hn : i < n
    · simp [rowOf, hn, upd]
    · simp [rowOf, hn]
  · rw [if_neg hj]
    simp only [rowOf, List.getElem?_map]
    by_cases hjn : j < n
    · simp [hjn, upd, Ne.symm hj]
    · simp [hjn]
theorem upd_map {α : Type} (f : Nat → α) (e : α → Value) (i : Nat) (x : α) : upd (fun v => e (f v)) i (e x) = fun v => e (upd f i x v) := by
  funext v; unfold upd; split <;> rfl

def encO : Option Nat → Int
  | none => -1
  | some v => v

/-- Where a forest lies: its record, its rows (by their fields' numbers), the vertices that wait. -/
structure FLay where
  f : Nat
  b : Nat → Nat
  nv : Value
  mA : Option Addr
  mc : Nat
  wA : Option Nat
  wo : Nat
  wc : Nat

def FLay.wv (L : FLay) (k : Nat) : Value := .slice (L.wA.map fun g => ⟨g, L.wo, none⟩) k L.wc
def FLay.rv (L : FLay) (n i : Nat) : Value := .slice (some ⟨L.b i, 0, none⟩) n n
def FLay.cells (L : FLay) (n turn k looks : Nat) : List Value :=
  [L.nv, .slice L.mA n L.mc, L.rv n 2, L.rv n 3, L.rv n 4, L.rv n 5, L.rv n 6, L.rv n 7, L.rv n 8, L.rv n 9, L.rv n 10, L.rv n 11, L.rv n 12, .int .i64 turn, L.wv k, .int .i64 looks]
/-- The record's own blocks. -/
def FLay.own (L : FLay) (k : Nat) : Prop := k = L.f ∨ (∃ i, 2 ≤ i ∧ i ≤ 12 ∧ k = L.b i) ∨ L.wA = some k

/-- The rows' cells. -/
def FRow (S : FoS) (u mk : Nat → Nat) (n : Nat) : Nat → List Value
  | 2 => rowOf n fun v => .int .i64 (S.label v)
  | 3 => rowOf n fun v => .bool (S.outer v)
  | 4 => rowOf n fun v => .int .i64 (S.even v)
  | 5 => rowOf n fun v => .int .i64 (S.odd v)
  | 6 => rowOf n fun v => .int .i64 (S.pred v)
  | 7 => rowOf n fun v => .int .i64 (encO (S.root v))
  | 8 => pcells ((List.range n).map fun v => (((S.bridge v).1 : Int), ((S.bridge v).2 : Int)))
  | 9 => rowOf n fun v => .bool (S.gone v)
  | 10 => rowOf n fun v => .int .i64 (u v)
  | 11 => rowOf n fun v => .int .i64 (S.base v)
  | 12 => rowOf n fun v => .int .i64 (mk v)
  | _ => []
def FTy : Nat → TypeId
  | 3 => 4
  | 9 => 4
  | 8 => 199
  | _ => 3

/-- The vertices that wait. -/
def WaitAt (w : World) (L : FLay) (l : List Nat) : Prop :=
  (l = [] ∧ L.wA = none ∧ L.wo = 0 ∧ L.wc = 0) ∨
  ∃ (g : Nat) (cur : List Value), L.wA = some g ∧ w.heap[g]? = some (.cells cur.toArray 3 (0, 0)) ∧ L.wo + L.wc ≤ cur.length ∧ l.length ≤ L.wc ∧ (cur.drop L.wo).take l.length = icells (l.map fun (v : Nat) => (v : Int)) ∧ L.wc ≤ maxLen

/-- What is a vertex is one. -/
structure FBd (n : Nat) (S : FoS) : Prop where
  pred : ∀ v, v < n → S.pred v < n
  root : ∀ v r, v < n → S.root v = some r → r < n
  bridge : ∀ v, v < n → (S.bridge v).1 < n ∧ (S.bridge v).2 < n
  base : ∀ v, v < n → S.base v < n
  wait : ∀ v ∈ S.wait, v < n
  len : S.wait.length ≤ 2 * n + 1
  turn : S.turn ≤ S.looks
  looks : S.looks ≤ 4611686018427387903
  label : ∀ v, v < n → S.label v ≤ 2

/-- The sets, as pointers upwards. -/
def UpOk (n : Nat) (u cls : Nat → Nat) : Prop :=
  ∃ h : Nat → Nat, ∀ v, v < n → cls v < n ∧ u (cls v) = cls v ∧ u v < n ∧ cls (u v) = cls v ∧ (u v ≠ v → h (u v) < h v) ∧ (u v = v → cls v = v)

/-- The mates, as they are told. -/
def mateL (n : Nat) (M : Nat → Option Nat) : List Int := (List.range n).map fun v => encO (M v)
theorem mateL_get {n : Nat} (M : Nat → Option Nat) {v : Nat} (h : v < n) : (mateL n M)[v]? = some (encO (M v)) := by simp [mateL, h]
theorem mateL_length (n : Nat) (M : Nat → Option Nat) : (mateL n M).length = n := by simp [mateL]

structure FMem (w0 w : World) (n : Nat) (M : Nat → Option Nat) (L : FLay) (S : FoS) (u mk : Nat → Nat) : Prop where
  fld : w.heap[L.f]? = some (.cells (L.cells n S.turn S.wait.length S.looks).toArray 157 (0, 0))
  row : ∀ i, 2 ≤ i → i ≤ 12 → w.heap[L.b i]? = some (.cells (FRow S u mk n i).toArray (FTy i) (0, 0))
  wait : WaitAt w L S.wait
  inj : ∀ i j, 2 ≤ i → i ≤ 12 → 2 ≤ j → j ≤ 12 → L.b i = L.b j → i = j
  nf : ∀ i, 2 ≤ i → i ≤ 12 → L.b i ≠ L.f
  nw : ∀ g, L.wA = some g → g ≠ L.f ∧ ∀ i, 2 ≤ i → i ≤ 12 → L.b i ≠ g
  lo : ∀ k, L.own k → w0.heap.size ≤ k
  mate : Reads w0 L.mA (icells (mateL n M))
  mc : n ≤ L.mc
  below : Below w0.heap.size w0 w
  bd : FBd n S
  nn : n ≤ 1000000
  mlt : ∀ v x, v < n → M v = some x → x < n
  up : UpOk n u S.cls
  mark : ∀ v, v < n → mk v ≤ S.turn

def FW (w0 w : World) (n : Nat) (M : Nat → Option Nat) (L : FLay) (S : FoS) : Prop := ∃ u mk, FMem w0 w n M L S u mk

/-- Nothing but a forest's own blocks has turned. -/
structure FStep (L L' : FLay) (w w' : World) : Prop where
  f : L'.f = L.f
  b : L'.b = L.b
  nv : L'.nv = L.nv
  mA : L'.mA = L.mA
  mc : L'.mc = L.mc
  wA : L'.wA = L.wA ∨ ∃ g, L'.wA = some g ∧ w.heap.size ≤ g
  os : w'.os = w.os
  tape : w'.tape = w.tape
  output : w'.output = w.output
  size : w.heap.size ≤ w'.heap.size
  block : ∀ k, k < w.heap.size → ¬ L.own k → w'.heap[k]? = w.heap[k]?

theorem FStep.refl (L : FLay) (w : World) : FStep L L w w := ⟨rfl, rfl, rfl, rfl, rfl, .inl rfl, rfl, rfl, rfl, Nat.le_refl _, fun _ _ _ => rfl⟩
theorem FStep.trans {L L' L'' : FLay} {a b c : World} (h : FStep L L' a b) (k : FStep L' L'' b c) : FStep L L'' a c := by
  refine ⟨k.f.trans h.f, k.b.trans h.b, k.nv.trans h.nv, k.mA.trans h.mA, k.mc.trans h.mc, ?_, k.os.trans h.os, k.tape.trans h.tape, k.output.trans h.output, Nat.le_trans h.size k.size, fun i hi ho => ?_⟩
  · rcases k.wA with e | ⟨g, e, hg⟩
    · rcases h.wA with e' | ⟨g, e', hg⟩
      · exact .inl (e.trans e')
      · exact .inr ⟨g, e.trans e', hg⟩
    · exact .inr ⟨g, e, Nat.le_trans h.size hg⟩
  · refine (k.block i (Nat.lt_of_lt_of_le hi h.size) fun hk => ?_).trans (h.block i hi ho)
    rcases hk with e | ⟨j, j1, j2, e⟩ | e
    · exact ho (.inl (e.trans h.f))
    · exact ho (.inr (.inl ⟨j, j1, j2, by rw [h.b] at e; exact e⟩))
    · rcases h.wA with e' | ⟨g, e', hg⟩
      · exact ho (.inr (.inr (e'.symm.trans e)))
      · rw [e'] at e; cases e; omega
theorem FStep.of_below {L : FLay} {a b : World} (h : Below a.heap.size a b) : FStep L L a b :=
  ⟨rfl, rfl, rfl, rfl, rfl, .inl rfl, h.os, h.tape, h.output, h.size, fun k hk _ => h.block k hk⟩
theorem FStep.below {L L' : FLay} {a b : World} (h : FStep L L' a b) {B : Nat} (hB : B ≤ a.heap.size) (hl : ∀ k, L.own k → B ≤ k) : Below B a b :=
  ⟨h.os, h.tape, h.output, h.size, fun k hk => h.block k (Nat.lt_of_lt_of_le hk hB) fun ho => absurd (hl k ho) (Nat.not_le_of_lt hk)⟩
/-- One cell of a forest's own is written. -/
theorem FStep.set {L : FLay} {a b : World} (h : FStep L L a b) {p : Addr} (hp : L.own p.block) (u : Value) : FStep L L a (b.setCell p u) :=
  h.trans ⟨rfl, rfl, rfl, rfl, rfl, .inl rfl, rfl, rfl, rfl, by simp [World.setCell], fun k hk ho => Below.heap_setCell _ _ _ _ (fun e => ho (e ▸ hp))⟩
theorem FStep.drewN {L L' : FLay} {a b : World} (h : FStep L L' a b) (m : Nat) : FStep L L' a (b.drewN m) := ⟨h.f, h.b, h.nv, h.mA, h.mc, h.wA, h.os, h.tape, h.output, h.size, h.block⟩

section
variable {w0 w : World} {n : Nat} {M : Nat → Option Nat} {L : FLay} {S : FoS} {u mk : Nat → Nat}

theorem FMem.flt (h : FMem w0 w n M L S u mk) : L.f < w.heap.size := heap_lt0 h.fld
theorem FMem.fc (h : FMem w0 w n M L S u mk) (i : Nat) (x : Value) (hx : (L.cells n S.turn S.wait.length S.looks)[i]? = some x) : w.cell? ⟨L.f, i, none⟩ = some x := blkc0 h.fld i x (by simpa using hx)
theorem FMem.ff (h : FMem w0 w n M L S u mk) (i : Nat) : w.frozen? ⟨L.f, i, none⟩ = false := blkf0 h.fld i
theorem FMem.rc (h : FMem w0 w n M L S u mk) (i : Nat) (h2 : 2 ≤ i) (h3 : i ≤ 12) (j : Nat) (x : Value) (hx : (FRow S u mk n i)[j]? = some x) : w.cell? ⟨L.b i, j, none⟩ = some x := blkc0 (h.row i h2 h3) j x (by simpa using hx)
theorem FMem.rf (h : FMem w0 w n M L S u mk) (i : Nat) (h2 : 2 ≤ i) (h3 : i ≤ 12) (j : Nat) : w.frozen? ⟨L.b i, j, none⟩ = false := blkf0 (h.row i h2 h3) j
theorem FMem.mcell (h : FMem w0 w n M L S u mk) {v : Nat} (hv : v < n) : ∃ b o, L.mA = some ⟨b, o, none⟩ ∧ w.cell? ⟨b, o + v, none⟩ = some (.int .i64 (encO (M v))) := by
  obtain ⟨b, o, h1, _, h3⟩ := (h.mate.below h.below).int v _ (mateL_get M hv)
  exact ⟨b, o, h1, h3⟩

/-- The world goes on, and turns nothing of the forest's. -/
theorem FMem.keep {w' : World} (h : FMem w0 w n M L S u mk) (hk : ∀ k, L.own k → w'.heap[k]? = w.heap[k]?) (hb : Below w0.heap.size w0 w') : FMem w0 w' n M L S u mk := by
  refine ⟨(hk _ (.inl rfl)).trans h.fld, fun i h2 h3 => (hk _ (.inr (.inl ⟨i, h2, h3, rfl⟩))).trans (h.row i h2 h3), ?_, h.inj, h.nf, h.nw, h.lo, h.mate, h.mc, hb, h.bd, h.nn, h.mlt, h.up, h.mark⟩
  rcases h.wait with e | ⟨g, cur, e1, e2, e3⟩
  · exact .inl e
  · exact .inr ⟨g, cur, e1, (hk g (.inr (.inr e1))).trans e2, e3⟩
theorem FMem.own_lt (h : FMem w0 w n M L S u mk) {k : Nat} (hk : L.own k) : k < w.heap.size := by
  rcases hk with e | ⟨i, h2, h3, e⟩ | e
  · rw [e]; exact h.flt
  · rw [e]; exact heap_lt0 (h.row i h2 h3)
  · rcases h.wait with ⟨_, e', _⟩ | ⟨g, cur, e1, e2, _⟩
    · rw [e'] at e; cases e
    · rw [e1] at e; cases e; exact heap_lt0 e2
theorem FMem.go {w' : World} (h : FMem w0 w n M L S u mk) (hb : Below w.heap.size w w') : FMem w0 w' n M L S u mk :=
  h.keep (fun k hk => hb.block k (h.own_lt hk)) (h.below.trans (hb.mono h.below.size))

/-- A cell of a row is written. -/
theorem FMem.set (h : FMem w0 w n M L S u mk) (i j : Nat) (x : Value) (h2 : 2 ≤ i) (h3 : i ≤ 12) {S' : FoS} {u' mk' : Nat → Nat} (hr : FRow S' u' mk' n i = (FRow S u mk n i).set j x) (hro : ∀ k, 2 ≤ k → k ≤ 12 → k ≠ i → FRow S' u' mk' n k = FRow S u mk n k)
    (ht : S'.turn = S.turn) (hw : S'.wait = S.wait) (hl : S'.looks = S.looks) (hbd : FBd n S') (hup : UpOk n u' S'.cls) (hmk : ∀ v, v < n → mk' v ≤ S'.turn) : FMem w0 (w.setCell ⟨L.b i, j, none⟩ x) n M L S' u' mk' := by
  have hfar : ∀ k, k ≠ L.b i → (w.setCell ⟨L.b i, j, none⟩ x).heap[k]? = w.heap[k]? := fun k hk => Below.heap_setCell _ _ _ _ hk
  have hown : L.own (L.b i) := .inr (.inl ⟨i, h2, h3, rfl⟩)
  refine ⟨?_, fun k k2 k3 => ?_, ?_, h.inj, h.nf, h.nw, h.lo, h.mate, h.mc, h.below.setCell (h.lo _ hown) _, hbd, h.nn, h.mlt, hup, hmk⟩
  · rw [ht, hw, hl, hfar _ (Ne.symm (h.nf i h2 h3))]; exact h.fld
  · by_cases e : k = i
    · subst e
      rw [hr]
      exact blk_put (h.row k h2 h3) j x
    · rw [hro k k2 k3 e, hfar _ (fun e' => e (h.inj k i k2 k3 h2 h3 e'))]
      exact h.row k k2 k3
  · rw [hw]
    rcases h.wait with e | ⟨g, cur, e1, e2, e3⟩
    · exact .inl e
    · exact .inr ⟨g, cur, e1, (hfar g (Ne.symm ((h.nw g e1).2 i h2 h3))).trans e2, e3⟩

/-- A number of the record is written. -/
theorem FMem.setF (h : FMem w0 w n M L S u mk) (i : Nat) (x : Value) {S' : FoS} {mk' : Nat → Nat} (hc : L.cells n S'.turn S'.wait.length S'.looks = (L.cells n S.turn S.wait.length S.looks).set i x) (hro : ∀ k, FRow S' u mk n k = FRow S u mk n k)
    (hw : S'.wait = S.wait) (hbd : FBd n S') (hup : S'.cls = S.cls) (hmk : ∀ v, v < n → mk v ≤ S'.turn) : FMem w0 (w.setCell ⟨L.f, i, none⟩ x) n M L S' u mk := by
  have hfar : ∀ k, k ≠ L.f → (w.setCell ⟨L.f, i, none⟩ x).heap[k]? = w.heap[k]? := fun k hk => Below.heap_setCell _ _ _ _ hk
  refine ⟨?_, fun k k2 k3 => ?_, ?_, h.inj, h.nf, h.nw, h.lo, h.mate, h.mc, h.below.setCell (h.lo _ (.inl rfl)) _, hbd, h.nn, h.mlt, by rw [hup]; exact h.up, hmk⟩
  · rw [hc]; exact blk_put h.fld i x
  · rw [hro, hfar _ (h.nf k k2 k3)]; exact h.row k k2 k3
  · rw [hw]
    rcases h.wait with e | ⟨g, cur, e1, e2, e3⟩
    · exact .inl e
    · exact .inr ⟨g, cur, e1, (hfar g (h.nw g e1).1).trans e2, e3⟩
end
end Go.Proofs.Ytgddfmfiiodgbaa

/- What changes one block, and lays others. -/
namespace Go.Proofs.Ytgddfmfiiodgbaa
open Go Go.RowKit
set_option maxRecDepth 100000
set_option linter.unusedVariables false
set_option linter.unusedSimpArgs false

/-- All blocks below B are as they were, but for one. -/
structure But (B g : Nat) (w w' : World) : Prop where
  os : w'.os = w.os
  tape : w'.tape = w.tape
  output : w'.output = w.output
  size : w.heap.size ≤ w'.heap.size
  block : ∀ k, k < B → k ≠ g → w'.heap[k]? = w.heap[k]?

section
variable {B g : Nat} {a b c w : World}
theorem But.refl (B g : Nat) (w : World) : But B g w w := ⟨rfl, rfl, rfl, Nat.le_refl _, fun _ _ _ => rfl⟩
theorem But.trans (h : But B g a b) (k : But B g b c) : But B g a c := ⟨k.os.trans h.os, k.tape.trans h.tape, k.output.trans h.output, Nat.le_trans h.size k.size, fun i hi hg => (k.block i hi hg).trans (h.block i hi hg)⟩
theorem But.mono {B' : Nat} (h : But B g a b) (hB : B' ≤ B) : But B' g a b := ⟨h.os, h.tape, h.output, h.size, fun k hk => h.block k (Nat.lt_of_lt_of_le hk hB)⟩
theorem But.drew (h : But B g a w) : But B g a w.drew := ⟨h.os, h.tape, h.output, h.size, h.block⟩
theorem But.drewN (h : But B g a w) (n : Nat) : But B g a (w.drewN n) := ⟨h.os, h.tape, h.output, h.size, h.block⟩
theorem But.alloc (h : But B g a w) (hB : B ≤ w.heap.size) (o : Obj) : But B g a (w.alloc o) :=
  ⟨h.os, h.tape, h.output, by have := h.size; rw [World.size_alloc]; omega, fun k hk hg => (Below.heap_alloc w o k (Nat.lt_of_lt_of_le hk hB)).trans (h.block k hk hg)⟩
theorem But.set (h : But B g a w) (i : Nat) (u : Value) : But B g a (w.setCell ⟨g, i, none⟩ u) :=
  ⟨h.os, h.tape, h.output, by rw [World.size_setCell]; exact h.size, fun k hk hg => (Below.heap_setCell _ _ _ _ hg).trans (h.block k hk hg)⟩
theorem But.setCell (h : But B g a w) {p : Addr} (hp : B ≤ p.block) (u : Value) : But B g a (w.setCell p u) :=
  ⟨h.os, h.tape, h.output, by rw [World.size_setCell]; exact h.size, fun k hk hg => (Below.heap_setCell _ _ _ _ (by omega)).trans (h.block k hk hg)⟩
theorem but_of (h : Below B a b) (g : Nat) : But B g a b := ⟨h.os, h.tape, h.output, h.size, fun k hk _ => h.block k hk⟩
theorem But.below (h : But B g a b) {B' : Nat} (hg : B' ≤ g) (hB : B' ≤ B) : Below B' a b := ⟨h.os, h.tape, h.output, h.size, fun k hk => h.block k (by omega) (by omega)⟩
theorem But.on (h : But B g a b) (k : Below b.heap.size b c) (hB : B ≤ b.heap.size) : But B g a c := h.trans (but_of (k.mono hB) g)
theorem But.cell (h : But B g a b) {p : Addr} (hp : p.block < B) (hg : p.block ≠ g) : b.cell? p = a.cell? p := World.cell?_of_block (w := a) (h.block p.block hp hg)
theorem But.frozen (h : But B g a b) {p : Addr} (hp : p.block < B) (hg : p.block ≠ g) : b.frozen? p = a.frozen? p := World.frozen?_of_block (w := a) (h.block p.block hp hg)
theorem Reads.but {w w1 : World} {A : Option Addr} {cs : List Value} (h : Reads w A cs) (hb : But w.heap.size g w w1) (hne : ∀ p, A = some p → p.block ≠ g) : Reads w1 A cs := by
  rcases h with h | ⟨b, o, h1, h2, h3⟩
  · exact .inl h
  · have hg : b ≠ g := hne _ h1
    exact .inr ⟨b, o, h1, Nat.lt_of_lt_of_le h2 hb.size, fun j v hj => (hb.cell (p := ⟨b, o + j, none⟩) h2 hg).trans (h3 j v hj)⟩
end
end Go.Proofs.Ytgddfmfiiodgbaa

/- A region that draws its order, by an invariant: each operation, whenever it may come up, hands it on; then it holds behind the region, whatever the order. -/
namespace Go.Proofs.Ytgddfmfiiodgbaa
open Go Go.RowKit
set_option maxRecDepth 100000
set_option linter.unusedVariables false
set_option linter.unusedSimpArgs false

def cntF : List Bool → Nat
  | [] => 0
  | b :: l => (if b then 0 else 1) + cntF l
theorem cntF_set (l : List Bool) : ∀ (i : Nat), l[i]? = some false → cntF (l.set i true) + 1 = cntF l := by
  induction l with
  | nil => intro i h; simp at h
  | cons b l ih =>
    intro i h
    cases i with
    | zero => simp at h; subst h; simp [cntF]; omega
    | succ i =>
      simp at h
      have := ih i h
      simp [cntF]
      omega
theorem cntF_zero (l : List Bool) (h : cntF l = 0) : ∀ (i : Nat) (b : Bool), l[i]? = some b → b = true := by
  induction l with
  | nil => intro i b h; simp at h
  | cons c l ih =>
    intro i b hb
    simp [cntF] at h
    cases i with
    | zero => simp at hb; subst hb; cases c <;> simp_all
    | succ i => exact ih (by omega) i b (by simpa using hb)
theorem cntF_replicate (n : Nat) : cntF (List.replicate n false) = n := by
  induction n with
  | zero => rfl
  | succ n ih => simp [List.replicate_succ, cntF, ih]; omega

def updB (d : Nat → Bool) (i : Nat) : Nat → Bool := fun j => if j = i then true else d j
/-- Every operation waits for earlier ones alone. -/
def depsB (md : Region.Mode) (ops : Array Oper) : Bool := (List.range ops.size).all fun i => match ops[i]? with
  | none => true
  | some o => o.after.all fun e => !Region.binds md e || decide (e.on < i)

section
variable {P : Program} {md : Region.Mode} {ops : Array Oper}

theorem depsB_spec (h : depsB md ops = true) {i : Nat} {o : Oper} (ho : ops[i]? = some o) {e : Edge} (he : e ∈ o.after) (hb : Region.binds md e = true) : e.on < i := by
  have hi : i < ops.size := (Array.getElem?_eq_some_iff.1 ho).1
  have := List.all_eq_true.1 h i (List.mem_range.2 hi)
  simp only [ho] at this
  have := Array.all_eq_true_iff_forall_mem.1 this e he
  simpa [hb] using this

theorem ready_nil (hdep : depsB md ops = true) {l : Array Bool} (hs : l.size = ops.size) (h : Region.ready md ops l = []) : ∀ i, i < ops.size → l.getD i false = true := by
  intro i
  induction i using Nat.strongRecOn with
  | _ i ih =>
    intro hi
    cases hl : l.getD i false with
    | true => rfl
    | false =>
      have : i ∈ Region.ready md ops l := by
        refine mem_ready.2 ⟨?_, ops[i], by simp [hi], fun e he hb => ?_⟩
        · simp [hs, hi] at hl ⊢; exact hl
        · have := depsB_spec hdep (by simp [hi] : ops[i]? = some ops[i]) he hb
          exact ih e.on this (by omega)
      rw [h] at this
      cases this

theorem any_of_inv (I : (Nat → Bool) → Act → World → Prop) {Q : Exit → Act → World → Prop} (hdep : depsB md ops = true)
    (hstep : ∀ i o, ops[i]? = some o → ∀ d a w, d i = false → (∀ e ∈ o.after, Region.binds md e = true → d e.on = true) → I d a w →
      if Region.wanted o (yielded ops a.tmps) then o.wp P a w (fun a' w' => I (updB d i) a' w') Q else I (updB d i) (a.put o.dst undef) w)
    (hend : ∀ d a w, (∀ i, i < ops.size → d i = true) → I d a w → Q .normal a w) :
    ∀ (f : Nat) (l : Array Bool) (a : Act) (w : World), l.size = ops.size → cntF l.toList = f → I (fun i => l.getD i false) a w → wpAny P md ops Q f l a w := by
  intro f
  induction f with
  | zero =>
    intro l a w hs hc hI
    have hall : ∀ i, i < ops.size → l.getD i false = true := by
      intro i hi
      have := cntF_zero _ hc i (l[i]'(by omega)) (by simp [hs, hi])
      simp [hs, hi, this]
    refine ⟨?_, hend _ a w hall hI⟩
    cases hr : Region.ready md ops l with
    | nil => rfl
    | cons j js =>
      have hj : j ∈ Region.ready md ops l := by rw [hr]; simp
      obtain ⟨h1, o, ho, _⟩ := mem_ready.1 hj
      have hjs : j < ops.size := (Array.getElem?_eq_some_iff.1 ho).1
      have := hall j hjs
      simp [hs, hjs] at h1 this
      rw [h1] at this
      cases this
  | succ f ih =>
    intro l a w hs hc hI
    refine ⟨fun h => hend _ a w (ready_nil hdep hs h) hI, fun i hi => ?_⟩
    obtain ⟨h1, o, ho, hall⟩ := mem_ready.1 hi
    have hil : i < ops.size := (Array.getElem?_eq_some_iff.1 ho).1
    have h1' : l[i]'(by omega) = false := by simpa [hs, hil] using h1
    have hnext : ∀ a' w', I (updB (fun i => l.getD i false) i) a' w' → wpAny P md ops Q f (l.setIfInBounds i true) a' w' := by
      intro a' w' h'
      refine ih _ a' w' (by simp [hs]) ?_ ?_
      · have := cntF_set l.toList i (by simp [hs, hil, h1'])
        simp only [Array.toList_setIfInBounds]
        omega
      · have : (fun j => (l.setIfInBounds i true).getD j false) = updB (fun i => l.getD i false) i := by
          funext j
          unfold updB
          by_cases hji : j = i
          · subst hji; simp [hs, hil]
          · simp only [hji, if_false]
            exact getD_set_ne false (by omega)
        rw [this]
        exact h'
    have hst := hstep i o ho (fun i => l.getD i false) a w (by simp [hs, hil, h1']) (fun e he hb => hall e he hb) hI
    unfold wpOp
    simp only [ho]
    split
    · rename_i hw
      rw [if_pos hw] at hst
      exact .inl (Oper.wp_mono hnext hst)
    · rename_i hw
      rw [if_neg hw] at hst
      exact hnext _ _ hst

theorem wp_region_inv {id : Nat} {Q : Exit → Act → World → Prop} {a : Act} {w : World} {l : List Oper} (I : (Nat → Bool) → Act → World → Prop) (hm : P.follows .mixedOrders = true) (hdep : depsB .any l.toArray = true)
    (h0 : I (fun _ => false) a w.drew)
    (hstep : ∀ i o, l[i]? = some o → ∀ d a w, d i = false → (∀ e ∈ o.after, Region.binds .any e = true → d e.on = true) → I d a w →
      if Region.wanted o (yielded l.toArray a.tmps) then o.wp P a w (fun a' w' => I (updB d i) a' w') Q else I (updB d i) (a.put o.dst undef) w)
    (hend : ∀ d a w, (∀ i, i < l.length → d i = true) → I d a w → Q .normal a w) : (Code.region id l.toArray true).wp P Q a w := by
  refine wp_region_any hm (any_of_inv I hdep (fun i o ho => hstep i o (by simpa using ho)) (fun d a w hall => hend d a w (by simpa using hall)) _ _ _ _ (by simp) ?_ ?_)
  · have := cntF_replicate l.length
    simpa using this
  · have : (fun i => (Array.replicate l.toArray.size false).getD i false) = fun _ => false := by
      funext i
      exact getD_replicate_false _ _
    rw [this]
    exact h0
end
end Go.Proofs.Ytgddfmfiiodgbaa
