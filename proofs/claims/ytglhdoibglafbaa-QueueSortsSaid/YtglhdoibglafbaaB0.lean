/- My own base lemmas for the walks (no program in sight). -/
import Derived.WalkKit
import Derived.WalkSpells
import Derived.Deep.QuietTactic
import Derived.BigQuiet
import Derived.Deep.LoopGhost
import Derived.Handy
import Derived.StillTailTactics
import Derived.Deep.RegionHeld3
import Derived.Deep.DeepCutAuto
import Derived.Lib.Hide
import Derived.Test.YtglhdoibglafbaaBQ
namespace Go.Proofs.Ytglhdoibglafbaa
open Go Go.RowKit
set_option maxRecDepth 100000
set_option linter.unusedVariables false

theorem wp_tail {P : Program} {id : Nat} {Q : Exit → Act → World → Prop} {a : Act} {w : World} {l : List Oper} (n : Nat) (hm : P.follows .mixedOrders = true) (hB : Region.lexTailB .any l.toArray n = true)
    (h : wpStill P l.toArray w.drew (fun a' => wpList P l.toArray Q (l.drop n) a' w.drew) (l.take n) a) : (Code.region id l.toArray true).wp P Q a w :=
  wp_region_still_tail n hm hB h

theorem flip_w {P : Program} {f : FuncId} {args : Array Value} {w : World} {v : Value} (h : Calls P f args w fun e w' => e = .returned v ∧ w = w') : Calls P f args w fun e w' => e = .returned v ∧ w' = w :=
  h.mono fun _ _ ⟨h1, h2⟩ => ⟨h1, h2.symm⟩

theorem below_drewN0 {B : Nat} {a w : World} (h : Below B a w) (n : Nat) : Below B a (w.drewN n) := ⟨h.os, h.tape, h.output, h.size, h.block⟩

/-- The cells of a row of edges (or entries): two numbers each. -/
def pcells (l : List (Int × Int)) : List Value := l.flatMap fun e => [.int .i64 e.1, .int .i64 e.2]
theorem pcells_length (l : List (Int × Int)) : (pcells l).length = 2 * l.length := by
  induction l with
  | nil => rfl
  | cons x l ih => simp [pcells] at ih ⊢; omega
theorem pcells_get (l : List (Int × Int)) (i : Nat) (e : Int × Int) (h : l[i]? = some e) : (pcells l)[2 * i]? = some (.int .i64 e.1) ∧ (pcells l)[2 * i + 1]? = some (.int .i64 e.2) := by
  induction l generalizing i with
  | nil => simp at h
  | cons x l ih =>
    cases i with
    | zero => simp at h; subst h; simp [pcells]
    | succ i =>
      simp at h
      have := ih i h
      simp only [pcells, List.flatMap_cons] at this ⊢
      have e1 : 2 * (i + 1) = 2 + 2 * i := by omega
      rw [e1]
      constructor
      · rw [List.getElem?_append_right (by simp)]; simpa using this.1
      · rw [show 2 + 2 * i + 1 = 2 + (2 * i + 1) by omega, List.getElem?_append_right (by simp)]; simpa using this.2

/-- Cells that are read from an address on. -/
def Reads (w : World) (A : Option Addr) (cs : List Value) : Prop :=
  cs = [] ∨ ∃ b o, A = some ⟨b, o, none⟩ ∧ b < w.heap.size ∧ ∀ j v, cs[j]? = some v → w.cell? ⟨b, o + j, none⟩ = some v

theorem Reads.below {w w1 : World} {A : Option Addr} {cs : List Value} (h : Reads w A cs) (hb : Below w.heap.size w w1) : Reads w1 A cs := by
  rcases h with h | ⟨b, o, h1, h2, h3⟩
  · exact .inl h
  · exact .inr ⟨b, o, h1, Nat.lt_of_lt_of_le h2 hb.size, fun j v hj => (hb.cell (p := ⟨b, o + j, none⟩) h2).trans (h3 j v hj)⟩

/-- Two numbers of a row of edges. -/
theorem Reads.pair {w : World} {A : Option Addr} {l : List (Int × Int)} (h : Reads w A (pcells l)) (i : Nat) (hi : i < l.length) :
    ∃ b o, A = some ⟨b, o, none⟩ ∧ b < w.heap.size ∧ w.cell? ⟨b, o + i * 2, none⟩ = some (.int .i64 (l[i]).1) ∧ w.cell? ⟨b, o + i * 2 + 1, none⟩ = some (.int .i64 (l[i]).2) := by
  rcases h with h | ⟨b, o, h1, h2, h3⟩
  · have := pcells_length l; rw [h] at this; simp at this; omega
  · obtain ⟨g1, g2⟩ := pcells_get l i l[i] (by simp [hi])
    rw [Nat.mul_comm 2 i] at g1 g2
    exact ⟨b, o, h1, h2, h3 _ _ g1, h3 _ _ g2⟩

theorem Reads.pair' {w : World} {A : Option Addr} {l : List (Int × Int)} (h : Reads w A (pcells l)) (i : Nat) (e : Int × Int) (hi : l[i]? = some e) :
    ∃ b o, A = some ⟨b, o, none⟩ ∧ b < w.heap.size ∧ w.cell? ⟨b, o + i * 2, none⟩ = some (.int .i64 e.1) ∧ w.cell? ⟨b, o + i * 2 + 1, none⟩ = some (.int .i64 e.2) := by
  obtain ⟨h1, h2⟩ := List.getElem?_eq_some_iff.1 hi
  subst h2
  exact h.pair i h1

theorem pcells_take (l : List (Int × Int)) (k : Nat) : pcells (l.take k) = (pcells l).take (k * 2) := by
  induction l generalizing k with
  | nil => simp [pcells]
  | cons x l ih =>
    cases k with
    | zero => simp [pcells]
    | succ k =>
      have := ih k
      simp only [pcells, List.take_succ_cons, List.flatMap_cons] at this ⊢
      rw [this, show (k + 1) * 2 = k * 2 + 1 + 1 by omega]
      simp
theorem pcells_drop (l : List (Int × Int)) (k : Nat) : pcells (l.drop k) = (pcells l).drop (k * 2) := by
  induction l generalizing k with
  | nil => simp [pcells]
  | cons x l ih =>
    cases k with
    | zero => simp [pcells]
    | succ k =>
      have := ih k
      simp only [pcells, List.drop_succ_cons, List.flatMap_cons] at this ⊢
      rw [this, show (k + 1) * 2 = k * 2 + 1 + 1 by omega]
      simp
theorem pcells_append (l l' : List (Int × Int)) : pcells (l ++ l') = pcells l ++ pcells l' := by simp [pcells]
theorem pcells_one (l : List (Int × Int)) : ∀ u ∈ pcells l, u.oneCell' = true := by
  intro u hu
  simp only [pcells, List.mem_flatMap] at hu
  obtain ⟨e, _, he⟩ := hu
  simp at he
  rcases he with rfl | rfl <;> rfl

/-- The cells of a row of numbers. -/
def icells (l : List Int) : List Value := l.map fun x => .int .i64 x
theorem icells_length (l : List Int) : (icells l).length = l.length := by simp [icells]
theorem icells_get (l : List Int) (i : Nat) (x : Int) (h : l[i]? = some x) : (icells l)[i]? = some (.int .i64 x) := by simp [icells, h]
theorem icells_one (l : List Int) : ∀ u ∈ icells l, u.oneCell' = true := by
  intro u hu
  simp only [icells, List.mem_map] at hu
  obtain ⟨x, _, rfl⟩ := hu
  rfl
theorem icells_append (l l' : List Int) : icells (l ++ l') = icells l ++ icells l' := by simp [icells]
theorem Reads.int {w : World} {A : Option Addr} {l : List Int} (h : Reads w A (icells l)) (i : Nat) (x : Int) (hi : l[i]? = some x) :
    ∃ b o, A = some ⟨b, o, none⟩ ∧ b < w.heap.size ∧ w.cell? ⟨b, o + i, none⟩ = some (.int .i64 x) := by
  rcases h with h | ⟨b, o, h1, h2, h3⟩
  · have := icells_get l i x hi; rw [h] at this; simp at this
  · exact ⟨b, o, h1, h2, h3 _ _ (icells_get l i x hi)⟩

end Go.Proofs.Ytglhdoibglafbaa
