/- All paths that alternate, from behind, and the least lengths (no program in sight). -/
import Derived.Test.YtgddfmfiiodgbaaU33
import Derived.Test.YtgddfmfiiodgbaaU38
import Derived.Test.YtgddfmfiiodgbaaU17
import Derived.Test.YtgddfmfiiodgbaaU37
import Derived.Test.YtgddfmfiiodgbaaU30
import Derived.Test.YtgddfmfiiodgbaaU29
import Derived.Test.YtgddfmfiiodgbaaU02
import Derived.Test.YtgddfmfiiodgbaaU36
namespace Go.Proofs.Ytgddfmfiiodgbaa
set_option linter.unusedVariables false
set_option linter.unusedSimpArgs false

/-- A path that alternates, from its end to a vertex without a mate. -/
inductive Alt (E : Nat → Nat → Prop) (M : Nat → Option Nat) : List Nat → Prop
  | root {r : Nat} : M r = none → Alt E M [r]
  | out {w v : Nat} {l : List Nat} : Alt E M (v :: l) → (v :: l).length % 2 = 1 → E v w → M v ≠ some w → w ∉ v :: l → Alt E M (w :: v :: l)
  | back {w v : Nat} {l : List Nat} : Alt E M (v :: l) → (v :: l).length % 2 = 0 → M v = some w → w ∉ v :: l → Alt E M (w :: v :: l)

section
variable {n : Nat} {E : Nat → Nat → Prop} {M : Nat → Option Nat}

theorem Alt.nodup {q : List Nat} (h : Alt E M q) : q.Nodup := by
  induction h with
  | root _ => simp
  | out _ _ _ _ h ih => exact List.nodup_cons.2 ⟨h, ih⟩
  | back _ _ _ h ih => exact List.nodup_cons.2 ⟨h, ih⟩
theorem Alt.first {q : List Nat} (h : Alt E M q) : ∃ v l, q = v :: l := by
  cases h <;> exact ⟨_, _, rfl⟩
theorem Alt.lt (hg : IsGr n E) (hM : IsMat n E M) {q : List Nat} (h : Alt E M q) (hr : ∀ r, q = [r] → r < n) : ∀ x ∈ q, x < n := by
  induction h with
  | root _ => intro x hx; simp at hx; exact hr x (by rw [hx])
  | @out w v l h1 h2 h3 h4 h5 ih =>
    intro x hx
    rcases List.mem_cons.1 hx with rfl | hx
    · exact hg.lt (hg.symm h3)
    · exact ih (fun r e => by simp at e; rw [← e.1]; exact hg.lt h3) x hx
  | @back w v l h1 h2 h3 h4 ih =>
    intro x hx
    rcases List.mem_cons.1 hx with rfl | hx
    · exact hM.lt (hM.symm h3)
    · exact ih (fun r e => by simp at e; rw [← e.1]; exact hM.lt h3) x hx
/-- Of an even number of edges. -/
theorem Alt.even (hg : IsGr n E) (hM : IsMat n E M) {q : List Nat} (h : Alt E M q) : (q.length % 2 = 1 → EvenW E M q) ∧ (q.length % 2 = 0 → ∃ w u l, q = w :: u :: l ∧ EvenW E M (u :: l) ∧ E w u ∧ M u ≠ some w) := by
  induction h with
  | root h => exact ⟨fun _ => .root h, fun e => by simp at e⟩
  | @out w v l h1 h2 h3 h4 h5 ih => exact ⟨fun e => by simp at e h2; omega, fun _ => ⟨w, v, l, rfl, ih.1 h2, hg.symm h3, h4⟩⟩
  | @back w v l h1 h2 h3 h4 ih =>
    refine ⟨fun _ => ?_, fun e => by simp at e h2; omega⟩
    obtain ⟨w', u, l', e, h5, h6, h7⟩ := ih.2 h2
    cases e
    exact .step (hM.symm h3) h6 h5
theorem alt_of_even (hg : IsGr n E) (hM : IsMat n E M) {q : List Nat} (h : EvenW E M q) (hn : q.Nodup) : Alt E M q ∧ q.length % 2 = 1 := by
  induction h with
  | root h => exact ⟨.root h, rfl⟩
  | @step v m u l h1 h2 h3 ih =>
    have hn1 := List.nodup_cons.1 hn
    have hn2 := List.nodup_cons.1 hn1.2
    obtain ⟨i1, i2⟩ := ih hn2.2
    have h4 : Alt E M (m :: u :: l) := .out i1 i2 (hg.symm h2) (fun e => by
      have := hM.symm e
      rw [hM.symm h1] at this
      cases this
      exact hn1.1 (by simp)) hn2.1
    refine ⟨.back h4 (by simp at i2 ⊢; omega) (hM.symm h1) hn1.1, by simp at i2 ⊢; omega⟩

/-- The least length of those paths that were seen. -/
def IsLeast (P : Nat → Prop) (x : Int) : Prop := (x = -1 ∧ ∀ k, ¬ P k) ∨ ∃ k : Nat, x = (k : Int) ∧ P k ∧ ∀ j, P j → k ≤ j
def leastI (a b : Int) : Int := if a < 0 ∨ b < a then b else a
theorem IsLeast.none : IsLeast (fun _ => False) (-1) := .inl ⟨rfl, fun k h => h⟩
theorem IsLeast.congr {P Q : Nat → Prop} {x : Int} (h : IsLeast P x) (hpq : ∀ k, P k ↔ Q k) : IsLeast Q x := by
  have : P = Q := funext fun k => propext (hpq k)
  rw [← this]; exact h
theorem IsLeast.add {P : Nat → Prop} {x : Int} (h : IsLeast P x) (m : Nat) : IsLeast (fun k => P k ∨ k = m) (leastI x (m : Int)) := by
  unfold leastI
  rcases h with ⟨rfl, h⟩ | ⟨k, rfl, h1, h2⟩
  · rw [if_pos (.inl (by omega))]
    exact .inr ⟨m, rfl, .inr rfl, fun j hj => by rcases hj with hj | rfl; exact absurd hj (h j); exact Nat.le_refl _⟩
  · by_cases hm : m < k
    · rw [if_pos (.inr (by omega))]
      exact .inr ⟨m, rfl, .inr rfl, fun j hj => by rcases hj with hj | rfl; have := h2 j hj; omega; exact Nat.le_refl _⟩
    · rw [if_neg (by omega)]
      exact .inr ⟨k, rfl, .inl h1, fun j hj => by rcases hj with hj | rfl; exact h2 j hj; omega⟩
theorem IsLeast.pos {P : Nat → Prop} {x : Int} (h : IsLeast P x) : 0 ≤ x ↔ ∃ k, P k := by
  rcases h with ⟨rfl, h⟩ | ⟨k, rfl, h1, h2⟩
  · exact ⟨fun e => by omega, fun ⟨k, hk⟩ => absurd hk (h k)⟩
  · exact ⟨fun _ => ⟨k, h1⟩, fun _ => by omega⟩

/-- What the levels are, of the paths that were seen. -/
structure LevOf (n : Nat) (M : Nat → Option Nat) (Sn : List Nat → Prop) (ev od : Nat → Int) (best : Int) : Prop where
  even : ∀ v, v < n → IsLeast (fun k => ∃ q, Sn (v :: q) ∧ q.length = k ∧ k % 2 = 0) (ev v)
  odd : ∀ v, v < n → IsLeast (fun k => ∃ q, Sn (v :: q) ∧ q.length = k ∧ k % 2 = 1) (od v)
  best : IsLeast (fun k => ∃ v q, Sn (v :: q) ∧ M v = none ∧ q.length = k ∧ k % 2 = 1) best
theorem LevOf.congr {Sn Sm : List Nat → Prop} {ev od : Nat → Int} {best : Int} (h : LevOf n M Sn ev od best) (hs : ∀ q, Sn q ↔ Sm q) : LevOf n M Sm ev od best := by
  have : Sn = Sm := funext fun k => propext (hs k)
  rw [← this]; exact h
theorem LevOf.start : LevOf n M (fun _ => False) (fun _ => -1) (fun _ => -1) (-1) :=
  ⟨fun v _ => IsLeast.none.congr (by simp), fun v _ => IsLeast.none.congr (by simp), IsLeast.none.congr (by simp)⟩
/-- A path of an even number of edges more. -/
theorem LevOf.addE {Sn : List Nat → Prop} {ev od : Nat → Int} {best : Int} (h : LevOf n M Sn ev od best) {v : Nat} {l : List Nat} (hl : l.length % 2 = 0) : LevOf n M (fun q => Sn q ∨ q = v :: l) (fun u => if u = v then leastI (ev u) (l.length : Int) else ev u) od best := by
  refine ⟨fun u hu => ?_, fun u hu => ?_, ?_⟩
  · by_cases huv : u = v
    · subst huv
      simp only [if_pos]
      refine ((h.even u hu).add l.length).congr fun k => ⟨fun hk => ?_, fun ⟨q, hq, h1, h2⟩ => ?_⟩
      · rcases hk with ⟨q, a, b, c⟩ | rfl
        · exact ⟨q, .inl a, b, c⟩
        · exact ⟨l, .inr rfl, rfl, hl⟩
      · rcases hq with hq | hq
        · exact .inl ⟨q, hq, h1, h2⟩
        · cases hq; exact .inr h1.symm
    · simp only [if_neg huv]
      refine (h.even u hu).congr fun k => ⟨fun ⟨q, a, b, c⟩ => ⟨q, .inl a, b, c⟩, fun ⟨q, a, b, c⟩ => ?_⟩
      rcases a with a | a
      · exact ⟨q, a, b, c⟩
      · cases a; exact absurd rfl huv
  · refine (h.odd u hu).congr fun k => ⟨fun ⟨q, a, b, c⟩ => ⟨q, .inl a, b, c⟩, fun ⟨q, a, b, c⟩ => ?_⟩
    rcases a with a | a
    · exact ⟨q, a, b, c⟩
    · cases a; omega
  · refine h.best.congr fun k => ⟨fun ⟨u, q, a, b, c⟩ => ⟨u, q, .inl a, b, c⟩, fun ⟨u, q, a, b, c, d⟩ => ?_⟩
    rcases a with a | a
    · exact ⟨u, q, a, b, c, d⟩
    · cases a; omega
/-- A path of an odd number of edges more. -/
theorem LevOf.addO {Sn : List Nat → Prop} {ev od : Nat → Int} {best : Int} (h : LevOf n M Sn ev od best) {v : Nat} {l : List Nat} (hl : l.length % 2 = 1) : LevOf n M (fun q => Sn q ∨ q = v :: l) ev (fun u => if u = v then leastI (od u) (l.length : Int) else od u) (if M v = none then leastI best (l.length : Int) else best) := by
  refine ⟨fun u hu => ?_, fun u hu => ?_, ?_⟩
  · refine (h.even u hu).congr fun k => ⟨fun ⟨q, a, b, c⟩ => ⟨q, .inl a, b, c⟩, fun ⟨q, a, b, c⟩ => ?_⟩
    rcases a with a | a
    · exact ⟨q, a, b, c⟩
    · cases a; omega
  · by_cases huv : u = v
    · subst huv
      simp only [if_pos]
      refine ((h.odd u hu).add l.length).congr fun k => ⟨fun hk => ?_, fun ⟨q, hq, h1, h2⟩ => ?_⟩
      · rcases hk with ⟨q, a, b, c⟩ | rfl
        · exact ⟨q, .inl a, b, c⟩
        · exact ⟨l, .inr rfl, rfl, hl⟩
      · rcases hq with hq | hq
        · exact .inl ⟨q, hq, h1, h2⟩
        · cases hq; exact .inr h1.symm
    · simp only [if_neg huv]
      refine (h.odd u hu).congr fun k => ⟨fun ⟨q, a, b, c⟩ => ⟨q, .inl a, b, c⟩, fun ⟨q, a, b, c⟩ => ?_⟩
      rcases a with a | a
      · exact ⟨q, a, b, c⟩
      · cases a; exact absurd rfl huv
  · by_cases hv : M v = none
    · rw [if_pos hv]
      refine (h.best.add l.length).congr fun k => ⟨fun hk => ?_, fun ⟨u, q, hq, h0, h1, h2⟩ => ?_⟩
      · rcases hk with ⟨u, q, a, b, c⟩ | rfl
        · exact ⟨u, q, .inl a, b, c⟩
        · exact ⟨v, l, .inr rfl, hv, rfl, hl⟩
      · rcases hq with hq | hq
        · exact .inl ⟨u, q, hq, h0, h1, h2⟩
        · cases hq; exact .inr h1.symm
    · rw [if_neg hv]
      refine h.best.congr fun k => ⟨fun ⟨u, q, a, b, c⟩ => ⟨u, q, .inl a, b, c⟩, fun ⟨u, q, a, b, c, d⟩ => ?_⟩
      rcases a with a | a
      · exact ⟨u, q, a, b, c, d⟩
      · cases a; exact absurd b hv

/-- What goes on from a path. -/
def Onw (E : Nat → Nat → Prop) (M : Nat → Option Nat) (q q' : List Nat) : Prop := Alt E M q' ∧ q <:+ q'
theorem onw_self {q : List Nat} (h : Alt E M q) : Onw E M q q := ⟨h, List.suffix_refl q⟩
/-- One step on. -/
theorem onw_step {q q' : List Nat} (h : Onw E M q q') (hne : q' ≠ q) : ∃ w, Onw E M (w :: q) q' ∧ Alt E M (w :: q) := by
  obtain ⟨ha, t, ht⟩ := h
  subst ht
  have htn : t ≠ [] := fun e => hne (by rw [e]; rfl)
  obtain ⟨t', w, rfl⟩ : ∃ t' w, t = t' ++ [w] := ⟨t.dropLast, t.getLast htn, (List.dropLast_concat_getLast htn).symm⟩
  have key : ∀ (s : List Nat), Alt E M (s ++ [w] ++ q) → q ≠ [] → Alt E M (w :: q) := by
    intro s
    induction s with
    | nil => intro h _; simpa using h
    | cons x s ih =>
      intro h hq
      refine ih ?_ hq
      generalize hz : s ++ [w] ++ q = z at *
      have h' : Alt E M (x :: z) := by rw [← hz]; simpa using h
      cases h' with
      | root _ => simp at hz
      | out h1 _ _ _ _ => exact h1
      | back h1 _ _ _ => exact h1
  by_cases hq : q = []
  · subst hq
    refine ⟨w, ⟨ha, ⟨t', by simp⟩⟩, ?_⟩
    have key0 : ∀ (s : List Nat), Alt E M (s ++ [w]) → Alt E M [w] := by
      intro s
      induction s with
      | nil => intro h; exact h
      | cons x s ih =>
        intro h
        refine ih ?_
        generalize hz : s ++ [w] = z at *
        have h' : Alt E M (x :: z) := by rw [← hz]; simpa using h
        cases h' with
        | root _ => simp at hz
        | out h1 _ _ _ _ => exact h1
        | back h1 _ _ _ => exact h1
    exact key0 t' (by simpa using ha)
  · exact ⟨w, ⟨ha, ⟨t', by simp⟩⟩, key t' ha hq⟩
end
end Go.Proofs.Ytgddfmfiiodgbaa

/- What the reference's Levels holds in memory. -/
namespace Go.Proofs.Ytgddfmfiiodgbaa
open Go Go.RowKit
set_option maxRecDepth 100000
set_option linter.unusedVariables false
set_option linter.unusedSimpArgs false

/-- All but three blocks stay. -/
structure Tch (s e o : Nat) (a b : World) : Prop where
  os : b.os = a.os
  tape : b.tape = a.tape
  output : b.output = a.output
  size : a.heap.size ≤ b.heap.size
  block : ∀ k, k < a.heap.size → k ≠ s → k ≠ e → k ≠ o → b.heap[k]? = a.heap[k]?
section
variable {s e o : Nat} {a b c : World}
theorem Tch.refl : Tch s e o a a := ⟨rfl, rfl, rfl, Nat.le_refl _, fun _ _ _ _ _ => rfl⟩
theorem Tch.trans (h : Tch s e o a b) (k : Tch s e o b c) : Tch s e o a c :=
  ⟨k.os.trans h.os, k.tape.trans h.tape, k.output.trans h.output, Nat.le_trans h.size k.size, fun i hi h1 h2 h3 => (k.block i (Nat.lt_of_lt_of_le hi h.size) h1 h2 h3).trans (h.block i hi h1 h2 h3)⟩
theorem Tch.of (h : Below a.heap.size a b) : Tch s e o a b := ⟨h.os, h.tape, h.output, h.size, fun k hk _ _ _ => h.block k hk⟩
theorem Tch.set {g : Nat} (hg : g = s ∨ g = e ∨ g = o) (i : Nat) (v : Value) : Tch s e o a (a.setCell ⟨g, i, none⟩ v) :=
  ⟨rfl, rfl, rfl, by rw [World.size_setCell]; exact Nat.le_refl _, fun k _ h1 h2 h3 => Below.heap_setCell _ _ _ _ (by show k ≠ g; rcases hg with rfl | rfl | rfl <;> assumption)⟩
theorem Tch.reads {A : Option Addr} {cs : List Value} (h : Tch s e o a b) (hr : Reads a A cs) (hd : ∀ q, A = some q → q.block ≠ s ∧ q.block ≠ e ∧ q.block ≠ o) : Reads b A cs := by
  rcases hr with hr | ⟨g, i, h1, h2, h3⟩
  · exact .inl hr
  · obtain ⟨d1, d2, d3⟩ := hd _ h1
    exact .inr ⟨g, i, h1, Nat.lt_of_lt_of_le h2 h.size, fun j v hj => (World.cell?_of_block (w := a) (a := ⟨g, i + j, none⟩) (h.block g h2 d1 d2 d3)).trans (h3 j v hj)⟩
theorem Tch.own {B el sz n : Nat} {v : Value} {xs : List Value} (h : Tch s e o a b) (ho : a.ownsRow B el sz v n xs) (hd : ∀ g, v.ownBlock = some g → g ≠ s ∧ g ≠ e ∧ g ≠ o) : b.ownsRow B el sz v n xs :=
  own_far ho fun g hg => h.block g (own_lt0 ho g hg).2 (hd g hg).1 (hd g hg).2.1 (hd g hg).2.2
end

/-- Where things lie. -/
structure LvL where
  n : Nat
  es : List (Int × Int)
  A : Option Addr
  c : Nat
  mA : Option Addr
  mc : Nat
  s : Nat
  e : Nat
  o : Nat
  ce : Nat
  co : Nat

structure LvW (L : LvL) (M : Nat → Option Nat) (ev od : Nat → Int) (best : Int) (wr : World) : Prop where
  blk : wr.heap[L.s]? = some (.cells #[.int .i64 (L.n : Int), .slice L.A L.es.length L.c, .slice L.mA L.n L.mc, .slice (some ⟨L.e, 0, none⟩) L.n L.ce, .slice (some ⟨L.o, 0, none⟩) L.n L.co, .int .i64 best] 161 (0, 0))
  re : wr.ownsRow 0 3 1 (.slice (some ⟨L.e, 0, none⟩) L.n L.ce) L.n (icells (rowL L.n ev))
  ro : wr.ownsRow 0 3 1 (.slice (some ⟨L.o, 0, none⟩) L.n L.co) L.n (icells (rowL L.n od))
  rd : Reads wr L.A (pcells L.es)
  rm : Reads wr L.mA (icells (mateL L.n M))
  d1 : L.s ≠ L.e ∧ L.s ≠ L.o ∧ L.e ≠ L.o
  dA : ∀ q, L.A = some q → q.block ≠ L.s ∧ q.block ≠ L.e ∧ q.block ≠ L.o
  dM : ∀ q, L.mA = some q → q.block ≠ L.s ∧ q.block ≠ L.e ∧ q.block ≠ L.o
section
variable {L : LvL} {M : Nat → Option Nat} {ev od : Nat → Int} {best : Int} {wr : World}
theorem LvW.go {wd : World} (h : LvW L M ev od best wr) (hb : Below wr.heap.size wr wd) : LvW L M ev od best wd :=
  ⟨(hb.block _ (heap_lt0 h.blk)).trans h.blk, own_below0 h.re hb, own_below0 h.ro hb, h.rd.below hb, h.rm.below hb, h.d1, h.dA, h.dM⟩
theorem LvW.setE (h : LvW L M ev od best wr) {v : Nat} (hv : v < L.n) (x : Int) : LvW L M (upd ev v x) od best (wr.setCell ⟨L.e, v, none⟩ (.int .i64 x)) := by
  have ht : Tch L.s L.e L.o wr (wr.setCell ⟨L.e, v, none⟩ (.int .i64 x)) := Tch.set (.inr (.inl rfl)) v _
  have h1 := own_write h.re v (by rw [icells_length, rowL_length]; exact hv) (.int .i64 x)
  rw [icells_set, rowL_set] at h1
  exact ⟨(Below.heap_setCell _ _ _ _ (by show L.s ≠ L.e; exact h.d1.1)).trans h.blk, h1, own_far h.ro fun g hg => Below.heap_setCell _ _ _ _ (by cases hg; exact fun e => h.d1.2.2 e.symm), ht.reads h.rd h.dA, ht.reads h.rm h.dM, h.d1, h.dA, h.dM⟩
theorem LvW.setO (h : LvW L M ev od best wr) {v : Nat} (hv : v < L.n) (x : Int) : LvW L M ev (upd od v x) best (wr.setCell ⟨L.o, v, none⟩ (.int .i64 x)) := by
  have ht : Tch L.s L.e L.o wr (wr.setCell ⟨L.o, v, none⟩ (.int .i64 x)) := Tch.set (.inr (.inr rfl)) v _
  have h1 := own_write h.ro v (by rw [icells_length, rowL_length]; exact hv) (.int .i64 x)
  rw [icells_set, rowL_set] at h1
  exact ⟨(Below.heap_setCell _ _ _ _ (by show L.s ≠ L.o; exact h.d1.2.1)).trans h.blk, own_far h.re fun g hg => Below.heap_setCell _ _ _ _ (by cases hg; exact h.d1.2.2), h1, ht.reads h.rd h.dA, ht.reads h.rm h.dM, h.d1, h.dA, h.dM⟩
theorem LvW.setB (h : LvW L M ev od best wr) (x : Int) : LvW L M ev od x (wr.setCell ⟨L.s, 5, none⟩ (.int .i64 x)) := by
  have ht : Tch L.s L.e L.o wr (wr.setCell ⟨L.s, 5, none⟩ (.int .i64 x)) := Tch.set (.inl rfl) 5 _
  have hb : (wr.setCell ⟨L.s, 5, none⟩ (.int .i64 x)).heap[L.s]? = some (.cells #[.int .i64 (L.n : Int), .slice L.A L.es.length L.c, .slice L.mA L.n L.mc, .slice (some ⟨L.e, 0, none⟩) L.n L.ce, .slice (some ⟨L.o, 0, none⟩) L.n L.co, .int .i64 x] 161 (0, 0)) := by
    have h1 := h.blk
    simp [World.setCell, Array.getElem?_modify, h1]
  exact ⟨hb, own_far h.re fun g hg => Below.heap_setCell _ _ _ _ (by cases hg; exact fun e => h.d1.1 e.symm), own_far h.ro fun g hg => Below.heap_setCell _ _ _ _ (by cases hg; exact fun e => h.d1.2.1 e.symm), ht.reads h.rd h.dA, ht.reads h.rm h.dM, h.d1, h.dA, h.dM⟩
end

theorem least_any (a b : Int) (w : World) : Calls Try.prog 176 #[.int .i64 a, .int .i64 b] w fun e w' => e = .returned (.int .i64 (leastI a b)) ∧ w = w' := by
  unfold leastI
  by_cases h1 : a < 0
  · rw [if_pos (.inl h1)]
    have d1 : decide (a < 0) = true := decide_eq_true h1
    go_enter Try.func176, Try.ntmps176
    go_wp2_with fail
    go_ret
    exact ⟨rfl, rfl⟩
  · by_cases h2 : b < a
    · rw [if_pos (.inr h2)]
      have d1 : decide (a < 0) = false := decide_eq_false h1
      have d2 : decide (b < a) = true := decide_eq_true h2
      go_enter Try.func176, Try.ntmps176
      go_wp2_with fail
      go_ret
      exact ⟨rfl, rfl⟩
    · rw [if_neg (by rintro (h | h) <;> omega)]
      have d1 : decide (a < 0) = false := decide_eq_false h1
      have d2 : decide (b < a) = false := decide_eq_false h2
      go_enter Try.func176, Try.ntmps176
      go_wp2_with fail
      go_ret
      exact ⟨rfl, rfl⟩
end Go.Proofs.Ytgddfmfiiodgbaa

/- The walk of the reference's Near, its own row. -/
namespace Go.Proofs.Ytgddfmfiiodgbaa
open Go Go.RowKit
set_option maxRecDepth 100000
set_option linter.unusedVariables false
set_option linter.unusedSimpArgs false

/-- A row of one's own. -/
def RowPostO (l : List Int) (w : World) (e : Ending) (w' : World) : Prop :=
  ∃ (A : Option Addr) (c : Nat), e = .returned (.slice A l.length c) ∧ l.length ≤ c ∧ w'.ownsRow w.heap.size 3 1 (.slice A l.length c) l.length (icells l) ∧ Below w.heap.size w w'

theorem own_apart {w w1 : World} {base e size n : Nat} {v : Value} {xs : List Value} {row : Option Nat} (h : w.ownsRow base e size v n xs) (hg : w.grownBy w1 row) (hne : ∀ g, v.ownBlock = some g → row ≠ some g) : w1.ownsRow base e size v n xs :=
  own_far h fun g hg' => hg.block g (own_lt0 h g hg').2 (fun hx => hne g hg' hx.symm)

/-- Two rows of one's own, one of which has grown. -/
theorem two_rows {w1 wr w5 : World} {B e e' s s' n5 n6 : Nat} {v5 v6 v5' : Value} {xs5 xs6 : List Value} (hb : Below B w1 wr) (hB : B ≤ wr.heap.size) (HO5 : wr.ownsRow B e s v5 n5 xs5) (HO6 : wr.ownsRow B e' s' v6 n6 xs6)
    (hne : ∀ g, v5.ownBlock = some g → v6.ownBlock ≠ some g) (o : Obj) (hg5 : (wr.alloc o).grownBy w5 v5.ownBlock) (hat5 : v5'.ownBlock = v5.ownBlock ∨ v5'.ownBlock = some (wr.alloc o).heap.size) :
    Below B w1 w5 ∧ w5.ownsRow B e' s' v6 n6 xs6 ∧ (∀ g, v5'.ownBlock = some g → v6.ownBlock ≠ some g) := by
  refine ⟨below_app (hb.alloc hB o) hg5 (by simp; omega) (fun g hg => (own_lt0 HO5 g hg).1), own_apart (own_below0 HO6 (Below.alloc (Below.refl _ _) (Nat.le_refl _) o)) hg5 (fun g hg hx => hne g hx hg), fun g hg hx => ?_⟩
  rcases hat5 with h9 | h9
  · exact hne g (h9.symm.trans hg) hx
  · have h8 := (own_lt0 HO6 g hx).2
    rw [h9] at hg
    simp at hg
    omega

set_option maxHeartbeats 4000000 in
theorem refNear_own (n v : Int) (es : List (Int × Int)) (A : Option Addr) (c : Nat) (w : World) (hr : Reads w A (pcells es)) (hc : es.length ≤ c) (hm : es.length ≤ 4611686018427387903) (hR : rightB n es = true) :
    Calls Try.prog 129 #[.agg #[.int .i64 n, .slice A es.length c], .int .i64 v] w (RowPostO (nearL es v) w) := by
  have HRt := fun W hr => refRight n es A c W hr hc hm
  have hP1 := ((right_iff _ _).1 hR).len
  have HOK := Lib.hid ((right_iff _ _).1 hR).ok
  rw [hR] at HRt
  clear hR
  go_enter Try.func129, Try.ntmps129
  go_wp2_with (first
    | (go_at_call 44; refine (HRt _ (hr.below ?_)).mono ?_
       · (repeat (first | with_reducible exact Below.refl _ _ | with_reducible assumption | with_reducible refine below_drewN0 ?_ _ | with_reducible refine Below.drew ?_ | with_reducible refine Below.alloc ?_ ?_ _ | with_reducible refine Below.setCell ?_ ?_ _ | go_size | exact Below.size (by assumption)))
       rintro e w1 ⟨rfl, hb1⟩
       have hbw : Below w.heap.size w w1 := Below.trans (by (repeat (first | with_reducible exact Below.refl _ _ | with_reducible assumption | with_reducible refine below_drewN0 ?_ _ | with_reducible refine Below.drew ?_ | with_reducible refine Below.alloc ?_ ?_ _ | with_reducible refine Below.setCell ?_ ?_ _ | go_size | exact Below.size (by assumption)))) (hb1.mono (by simp))
       have HG := Lib.hid (fun w' (h : Below w1.heap.size w1 w') => blk2 ((h.block w.heap.size (by have := hb1.size; simp at this; omega)).trans ((hb1.block w.heap.size (by simp)).trans (heap_alloc_new _ _))))))
  have hs1 : w.heap.size + 1 ≤ w1.heap.size := by have := hb1.size; simp at this; omega
  clear hb1
  go_loopw [5, 6, 7] (fun v5 v6 i wr => ∃ k : Nat, k ≤ es.length ∧ i = .int .i64 k ∧ Below w1.heap.size w1 wr ∧ Hid (wr.ownsRow w1.heap.size 3 1 v5 (lowL (es.take k) v).length (icells (lowL (es.take k) v))) ∧ Hid (wr.ownsRow w1.heap.size 3 1 v6 (highL (es.take k) v).length (icells (highL (es.take k) v))) ∧ Hid (∀ g, v5.ownBlock = some g → v6.ownBlock ≠ some g)) (fun _ _ i _ => es.length - (intOf i).toNat)
  case atStart => exact ⟨0, Nat.zero_le _, rfl, Below.refl _ _, own_nil0 _ _ _ _, own_nil0 _ _ _ _, fun g h => by simp [Value.ownBlock] at h⟩
  case round =>
    obtain ⟨k, hk, rfl, hb, ho5, ho6, hne⟩ := hrel
    have hsr := hb.size
    by_cases hlt : k < es.length
    · obtain ⟨⟨x, y⟩, hxy⟩ : ∃ e, es[k]? = some e := ⟨es[k], by simp [hlt]⟩
      have hord : x < y := (HOK.out _ (List.mem_of_getElem? hxy)).2.1
      obtain ⟨b, o, rfl, hbl, e1, e2⟩ := hr.pair' k _ hxy
      have HLo := Lib.hid (lowL_one es k x y hxy v)
      have HHi := Lib.hid (highL_one es k x y hxy v)
      have hl5 := lowL_length (es.take k) v
      have hl6 := highL_length (es.take k) v
      have htk := List.length_take_le k es
      clear hxy
      have hkc : (k : Int) < (es.length : Int) := by omega
      have HK := Lib.hid (fun (w' : World) (h : Below w1.heap.size w1 w') => (⟨(HG.out _ h).1, (HG.out _ h).2.1, (h.cell (p := ⟨b, o + k * 2, none⟩) (by dsimp only; omega)).trans ((hbw.cell (p := ⟨b, o + k * 2, none⟩) hbl).trans e1), (h.cell (p := ⟨b, o + k * 2 + 1, none⟩) (by dsimp only; omega)).trans ((hbw.cell (p := ⟨b, o + k * 2 + 1, none⟩) hbl).trans e2)⟩ : w'.cell? ⟨w.heap.size, 0, none⟩ = some (.int .i64 n) ∧ w'.cell? ⟨w.heap.size, 1, none⟩ = some (.slice (some ⟨b, o, none⟩) es.length c) ∧ w'.cell? ⟨b, o + k * 2, none⟩ = some (.int .i64 x) ∧ w'.cell? ⟨b, o + k * 2 + 1, none⟩ = some (.int .i64 y)))
      obtain ⟨a0, a1, a2, a3⟩ := HK.out _ hb
      clear e1 e2
      obtain ⟨A5, c5, rfl, hc5, hr5⟩ := own_reads0 ho5.out
      obtain ⟨A6, c6, rfl, hc6, hr6⟩ := own_reads0 ho6.out
      have HO5 := ho5
      have HO6 := ho6
      clear ho5 ho6
      by_cases hy : y = v
      · subst hy
        have hx : ¬ x = y := by omega
        have hx' : (x == y) = false := by simpa using hx
        go_wp2_with (first
          | (at_builtin; go_loud (
             refine wpList_app EI_int rfl (.tmp 26) (.tmp 33) rfl w1.heap.size (.slice A5 (lowL (es.take k) y).length c5) (lowL (es.take k) y).length (icells (lowL (es.take k) y)) rfl ?_ (some ⟨wr.heap.size, 0, none⟩) 1 1 [.int .i64 x] rfl ?_ rfl ?_ ?_ ?_ ?_
             · exact own_below0 HO5.out (by (repeat (first | with_reducible exact Below.refl _ _ | with_reducible assumption | with_reducible refine below_drewN0 ?_ _ | with_reducible refine Below.drew ?_ | with_reducible refine Below.alloc ?_ ?_ _ | with_reducible refine Below.setCell ?_ ?_ _ | go_size | exact Below.size (by assumption))))
             · exact reads_new _ [_] _
             · simp [Value.oneCell']
             · omega
             · go_size
             intro v5' w5 hown5 hg5 hat5
             obtain ⟨hb5, hown6, hne5⟩ := two_rows hb hsr HO5.out HO6.out hne.out _ hg5 hat5
             have HN5 := Lib.hid hne5
             obtain ⟨b0, b1, b2, b3⟩ := HK.out _ hb5
             clear hne5)))
        go_roundw
        case rel => exact ⟨k + 1, by omega, by go_num, hb5, by rw [HLo.out, if_pos rfl]; exact own_cast hown5 (Nat.le_refl _) (by simp) (by simp [icells]), by rw [HHi.out, if_neg hx]; exact hown6, HN5⟩
        case measure => simp [intOf]; omega
      · have hy' : (y == v) = false := by simpa using hy
        by_cases hx : x = v
        · subst hx
          go_wp2_with (first
            | (at_builtin; go_loud (
               refine wpList_app EI_int rfl (.tmp 43) (.tmp 50) rfl w1.heap.size (.slice A6 (highL (es.take k) x).length c6) (highL (es.take k) x).length (icells (highL (es.take k) x)) rfl ?_ (some ⟨wr.heap.size, 0, none⟩) 1 1 [.int .i64 y] rfl ?_ rfl ?_ ?_ ?_ ?_
               · exact own_below0 HO6.out (by (repeat (first | with_reducible exact Below.refl _ _ | with_reducible assumption | with_reducible refine below_drewN0 ?_ _ | with_reducible refine Below.drew ?_ | with_reducible refine Below.alloc ?_ ?_ _ | with_reducible refine Below.setCell ?_ ?_ _ | go_size | exact Below.size (by assumption))))
               · exact reads_new _ [_] _
               · simp [Value.oneCell']
               · omega
               · go_size
               intro v6' w6 hown6 hg6 hat6
               obtain ⟨hb6, hown5, hne6⟩ := two_rows hb hsr HO6.out HO5.out (fun g hg hx => hne.out g hx hg) _ hg6 hat6
               have HN6 := Lib.hid hne6
               clear hne6)))
          go_roundw
          case rel => exact ⟨k + 1, by omega, by go_num, hb6, by rw [HLo.out, if_neg hy]; exact hown5, by rw [HHi.out, if_pos rfl]; exact own_cast hown6 (Nat.le_refl _) (by simp) (by simp [icells]), fun g hg hx => HN6.out g hx hg⟩
          case measure => simp [intOf]; omega
        · have hx' : (x == v) = false := by simpa using hx
          go_wp2_with fail
          go_roundw
          case rel => exact ⟨k + 1, by omega, by go_num, hb, by rw [HLo.out, if_neg hy]; exact HO5, by rw [HHi.out, if_neg hx]; exact HO6, hne⟩
          case measure => simp [intOf]; omega
    · obtain rfl : k = es.length := by omega
      simp only [List.take_length] at ho5 ho6 hne
      obtain ⟨A5, c5, rfl, hc5, hr5⟩ := own_reads0 ho5.out
      obtain ⟨A6, c6, rfl, hc6, hr6⟩ := own_reads0 ho6.out
      have HO5 := ho5
      have HO6 := ho6
      clear ho5 ho6
      obtain ⟨a0, a1, a2, a3, a4⟩ := HG.out _ hb
      have hl5 := lowL_length es v
      have hl6 := highL_length es v
      go_wp2_with (first
          | (at_builtin; go_loud (
             refine wpList_app EI_int rfl (.tmp 52) (.tmp 53) rfl w1.heap.size (.slice A5 (lowL es v).length c5) (lowL es v).length (icells (lowL es v)) rfl HO5.out A6 (highL es v).length c6 (icells (highL es v)) rfl hr6 ?_ (icells_one _) ?_ ?_ ?_
             · simp [icells]
             · omega
             · go_size
             intro v7 w7 hown7 hg7 hat7
             obtain ⟨A7, c7, rfl, hc7, hr7⟩ := own_reads0 hown7
             have hb7 : Below w1.heap.size w1 w7 := below_app hb hg7 hsr (fun g hg => (own_lt0 HO5.out g hg).1))))
      go_ret
      refine ⟨A7, c7, by simp [nearL], by simpa [nearL] using hc7, ?_, hbw.trans (hb7.mono (by omega))⟩
      rw [nearL, icells_append, List.length_append]
      exact own_cast hown7 (by omega) rfl rfl
end Go.Proofs.Ytgddfmfiiodgbaa
