/- A region that draws its order: a head of operations that only read (they may draw), then a tail in one forced order. One walk of the head in the order of the text serves every order. -/
import Derived.BigQuiet
import Derived.StillTail
import Derived.Deep.QuietTactic
import Derived.WalkKit
import Derived.WalkSpells
import Derived.Deep.LoopGhost
import Derived.Handy
import Derived.StillTailTactics
import Derived.Deep.RegionHeld3
import Derived.Deep.DeepCutAuto
import Derived.Lib.Hide
import Derived.Test.YtgddfmfiiodgbaaProg
import Derived.SizedLaws
import Derived.Deep.SlicePairs
import Derived.Deep.Slices
import Derived.Lib.SmallJoins
import Derived.OpenShut
import Derived.WideShapes
namespace Go.Proofs.Ytgddfmfiiodgbaa
open Go Go.RowKit
set_option maxRecDepth 100000
set_option linter.unusedVariables false
set_option linter.unusedSimpArgs false

section
variable {P : Program} {md : Region.Mode} {ops : Array Oper} {C : World → Prop}

/-- From here on the head's operations come up, in whatever order; then L holds. -/
def headQ (P : Program) (md : Region.Mode) (ops : Array Oper) (C : World → Prop) (n : Nat) (L : Array Bool → Act → Prop) : Nat → Array Bool → Act → Prop
  | 0, l, a => L l a
  | f + 1, l, a => Region.ready md ops l ≠ [] ∧ ∀ i, i ∈ Region.ready md ops l → i < n ∧ qOp P ops C i (headQ P md ops C n L f (l.setIfInBounds i true)) a

theorem any_of_headQ {n g : Nat} {L : Array Bool → Act → Prop} {R : Exit → Act → World → Prop} (hL : ∀ l a w, C w → L l a → wpAny P md ops R g l a w) (f : Nat) :
    ∀ (l : Array Bool) (a : Act) (w : World), C w → headQ P md ops C n L f l a → wpAny P md ops R (f + g) l a w := by
  induction f with
  | zero => intro l a w hw h; rw [Nat.zero_add]; exact hL l a w hw h
  | succ f ih =>
    intro l a w hw h
    rw [Nat.add_right_comm]
    refine ⟨fun h0 => absurd h0 h.1, fun i hi => ?_⟩
    exact wpOp_of_qOp hw (fun a' w' hw' h' => ih _ a' w' hw' h') (h.2 i hi).2

theorem headQ_first {n i : Nat} {oi : Oper} {v : Value} {L : Array Bool → Act → Prop} (hi : ops[i]? = some oi) (hsel : ∀ (j : Nat) (o : Oper) cs b, ops[j]? = some o → o.op ≠ .select cs b)
    (hs : Region.sinkB md ops n = true) (hc : Region.chainB md ops n = true) (hn : n < ops.size) (hin : i < n)
    (hdone : ∀ l a, L l a → ∀ j, j ∈ Region.ready md ops l → n ≤ j) (f : Nat) :
    ∀ (l : Array Bool) (a : Act), HeadInv md ops n l →
      (∀ j oj, ops[j]? = some oj → j ≠ i → l.getD j true = false → (∀ e ∈ oj.after, Region.binds md e = true → e.on ≠ i) → oi.apart ops oj = true) →
      i ∈ Region.ready md ops l → YieldsIn P ops C oi v a →
      headQ P md ops C n L f (l.setIfInBounds i true) (a.put oi.dst v) → headQ P md ops C n L (f + 1) l a := by
  induction f with
  | zero =>
    intro l a inv hfree hr hy H
    have hun := (mem_ready.1 hr).1
    refine ⟨List.ne_nil_of_mem hr, fun j hj => ?_⟩
    have hjn : j < n := Nat.lt_of_not_le fun h => tail_waits hs hc hn inv _ i rfl hin hun j h hj
    refine ⟨hjn, ?_⟩
    by_cases hji : j = i
    · subst hji; exact hy.qOp hi H
    · exact absurd (hdone _ _ H j (ready_mono hj hji)) (by omega)
  | succ f ih =>
    intro l a inv hfree hr hy H
    have hun := (mem_ready.1 hr).1
    refine ⟨List.ne_nil_of_mem hr, fun j hj => ?_⟩
    have hjn : j < n := Nat.lt_of_not_le fun h => tail_waits hs hc hn inv _ i rfl hin hun j h hj
    refine ⟨hjn, ?_⟩
    by_cases hji : j = i
    · subst hji; exact hy.qOp hi H
    obtain ⟨hjun, oj, hoj, hall⟩ := mem_ready.1 hj
    have hnot : ∀ e ∈ oj.after, Region.binds md e = true → e.on ≠ i := fun e he hb heq => by
      have h1 := hall e he hb
      rw [heq, getD_both hun] at h1
      cases h1
    have hput := qOp_put hoj (hfree j oj hoj hji hjun hnot) (fun cs b => hsel i oi cs b hi) (fun cs b => hsel j oj cs b hoj) hy (H.2 j (ready_mono hj hji)).2
    refine qOp_mono (fun a' h3 => ih (l.setIfInBounds j true) a' (inv.set hj hjn) (fun k ok hk hki hu hno => hfree k ok hk hki ?_ hno) (ready_mono hr (Ne.symm hji)) h3.1 ?_) hput
    · by_cases hjk : j = k
      · subst hjk; exact hjun
      · rw [getD_set_ne true hjk] at hu; exact hu
    · rw [Array.setIfInBounds_comm _ _ hji]; exact h3.2

theorem headQ_lex {n g : Nat} {Lq : Act → Prop} (hsel : Region.noSelect ops = true) (hs : Region.sinkB md ops n = true) (hc : Region.chainB md ops n = true) (hn : n < ops.size) (os : List Oper) :
    ∀ (k : Nat) (l : Array Bool) (a : Act), (∀ j, j < os.length → os[j]? = ops[k + j]?) → k + os.length = n → HeadInv md ops n l →
    Region.lexHead md ops g os.length k l = true → wpQuiet P ops C Lq os a →
    headQ P md ops C n (fun l' a' => Region.seqB md ops g n l' = true ∧ Lq a') os.length l a := by
  induction os with
  | nil =>
    intro k l a _ hk _ hB h
    obtain rfl : k = n := by simpa using hk
    exact ⟨by simpa [Region.lexHead] using hB, h⟩
  | cons o os ih =>
    intro k l a hl hk inv hB h
    have h0 : ops[k]? = some o := by simpa using (hl 0 (by simp)).symm
    simp only [List.length_cons, Region.lexHead, Bool.and_eq_true] at hB
    have hkn : k < n := by simp only [List.length_cons] at hk; omega
    have hr : k ∈ Region.ready md ops l := by simpa using hB.1.1
    have hq : qOp P ops C k (wpQuiet P ops C Lq os) a := by unfold qOp; simp only [h0]; exact h
    obtain ⟨v, hy, hK⟩ := yieldsIn_of_qOp h0 hq
    refine headQ_first h0 (Region.noSelect_spec hsel) hs hc hn hkn (fun l' a' hL => seqB_ready hL.1) os.length l a inv (Region.free_spec h0 hB.1.2) hr hy (ih (k + 1) _ _ (fun j hj => ?_) (by simp only [List.length_cons] at hk; omega) (inv.set hr hkn) hB.2 hK)
    have := hl (j + 1) (by simp; omega)
    simpa [Nat.add_assoc, Nat.add_comm 1 j] using this

/-- The head (n operations) reads alone, the tail goes in one order. -/
theorem wp_quiet_tail {id : Nat} {Q : Exit → Act → World → Prop} {a : Act} {w : World} {l : List Oper} (n : Nat) (hm : P.follows .mixedOrders = true) (hB : Region.lexTailB .any l.toArray n = true)
    (h : wpQuiet P l.toArray (fun w' => ∃ m, w' = w.drewN m) (fun a' => ∀ w', (∃ m, w' = w.drewN m) → wpList P l.toArray Q (l.drop n) a' w') (l.take n) a) : (Code.region id l.toArray true).wp P Q a w := by
  simp only [Region.lexTailB, Bool.and_eq_true, decide_eq_true_eq] at hB
  obtain ⟨⟨⟨⟨hsel, hn⟩, hs⟩, hc⟩, hlex⟩ := hB
  have hn' : n < l.length := by simpa using hn
  have htl : (l.take n).length = n := by simp; omega
  have hdl : (l.drop n).length = l.toArray.size - n := by simp
  have inv0 : HeadInv .any l.toArray n (Array.replicate l.toArray.size false) :=
    ⟨by simp, fun j oj _ hl => (by rw [getD_replicate_false] at hl; cases hl), fun t _ ht => getD_in (by simpa using ht) (getD_replicate_false _ _)⟩
  have H := headQ_lex (md := .any) (g := l.toArray.size - n) hsel hs hc hn (l.take n) 0 _ a (fun j hj => by
    have hj' : j < n := by rw [htl] at hj; exact hj
    simp [hj']) (by simpa using htl) inv0 (by rw [htl]; exact hlex) h
  refine wp_region_any hm ?_
  have := any_of_headQ (R := Q) (g := l.toArray.size - n) (fun l' a' w' hw' hL => by
    have := wpAny_of_seq (md := .any) (Q' := Q) (l.drop n) n l' a' w' (fun j => by simp [List.getElem?_drop]) (by rw [hdl]; exact hL.1) (hL.2 w' hw')
    rwa [hdl] at this) _ _ _ _ (⟨1, rfl⟩ : ∃ m, { w with drawn := w.drawn + 1 } = w.drewN m) H
  rw [htl, show n + (l.toArray.size - n) = l.toArray.size by omega] at this
  exact this
end
end Go.Proofs.Ytgddfmfiiodgbaa

/- My own base lemmas for the walks (no program in sight). -/
namespace Go.Proofs.Ytgddfmfiiodgbaa
open Go Go.RowKit
set_option maxRecDepth 100000
set_option linter.unusedVariables false
set_option linter.unusedSimpArgs false

theorem wp_tail {P : Program} {id : Nat} {Q : Exit → Act → World → Prop} {a : Act} {w : World} {l : List Oper} (n : Nat) (hm : P.follows .mixedOrders = true) (hB : Region.lexTailB .any l.toArray n = true)
    (h : wpStill P l.toArray w.drew (fun a' => wpList P l.toArray Q (l.drop n) a' w.drew) (l.take n) a) : (Code.region id l.toArray true).wp P Q a w :=
  wp_region_still_tail n hm hB h

theorem flip_w {P : Program} {f : FuncId} {args : Array Value} {w : World} {v : Value} (h : Calls P f args w fun e w' => e = .returned v ∧ w = w') : Calls P f args w fun e w' => e = .returned v ∧ w' = w :=
  h.mono fun _ _ ⟨h1, h2⟩ => ⟨h1, h2.symm⟩

theorem below_drewN0 {B : Nat} {a w : World} (h : Below B a w) (n : Nat) : Below B a (w.drewN n) := ⟨h.os, h.tape, h.output, h.size, h.block⟩

/-- The cells of a row of edges (or entries): two numbers each. -/
def pcells (l : List (Int × Int)) : List Value := l.flatMap fun e => [.int .i64 e.1, .int .i64 e.2]
theorem pcells_length (l : List (Int × Int)) : (pcells l).length = 2 * l.length := by
  induction l with
  | nil => rfl
  | cons x l ih => simp [pcells] at ih ⊢; omega
theorem pcells_get (l : List (Int × Int)) (i : Nat) (e : Int × Int) (h : l[i]? = some e) : (pcells l)[2 * i]? = some (.int .i64 e.1) ∧ (pcells l)[2 * i + 1]? = some (.int .i64 e.2) := by
  induction l generalizing i with
  | nil => simp at h
  | cons x l ih =>
    cases i with
    | zero => simp at h; subst h; simp [pcells]
    | succ i =>
      simp at h
      have := ih i h
      simp only [pcells, List.flatMap_cons] at this ⊢
      have e1 : 2 * (i + 1) = 2 + 2 * i := by omega
      rw [e1]
      constructor
      · rw [List.getElem?_append_right (by simp)]; simpa using this.1
      · rw [show 2 + 2 * i + 1 = 2 + (2 * i + 1) by omega, List.getElem?_append_right (by simp)]; simpa using this.2

/-- Cells that are read from an address on. -/
def Reads (w : World) (A : Option Addr) (cs : List Value) : Prop :=
  cs = [] ∨ ∃ b o, A = some ⟨b, o, none⟩ ∧ b < w.heap.size ∧ ∀ j v, cs[j]? = some v → w.cell? ⟨b, o + j, none⟩ = some v

theorem Reads.below {w w1 : World} {A : Option Addr} {cs : List Value} (h : Reads w A cs) (hb : Below w.heap.size w w1) : Reads w1 A cs := by
  rcases h with h | ⟨b, o, h1, h2, h3⟩
  · exact .inl h
  · exact .inr ⟨b, o, h1, Nat.lt_of_lt_of_le h2 hb.size, fun j v hj => (hb.cell (p := ⟨b, o + j, none⟩) h2).trans (h3 j v hj)⟩

/-- Two numbers of a row of edges. -/
theorem Reads.pair {w : World} {A : Option Addr} {l : List (Int × Int)} (h : Reads w A (pcells l)) (i : Nat) (hi : i < l.length) :
    ∃ b o, A = some ⟨b, o, none⟩ ∧ b < w.heap.size ∧ w.cell? ⟨b, o + i * 2, none⟩ = some (.int .i64 (l[i]).1) ∧ w.cell? ⟨b, o + i * 2 + 1, none⟩ = some (.int .i64 (l[i]).2) := by
  rcases h with h | ⟨b, o, h1, h2, h3⟩
  · have := pcells_length l; rw [h] at this; simp at this; omega
  · obtain ⟨g1, g2⟩ := pcells_get l i l[i] (by simp [hi])
    rw [Nat.mul_comm 2 i] at g1 g2
    exact ⟨b, o, h1, h2, h3 _ _ g1, h3 _ _ g2⟩

theorem Reads.pair' {w : World} {A : Option Addr} {l : List (Int × Int)} (h : Reads w A (pcells l)) (i : Nat) (e : Int × Int) (hi : l[i]? = some e) :
    ∃ b o, A = some ⟨b, o, none⟩ ∧ b < w.heap.size ∧ w.cell? ⟨b, o + i * 2, none⟩ = some (.int .i64 e.1) ∧ w.cell? ⟨b, o + i * 2 + 1, none⟩ = some (.int .i64 e.2) := by
  obtain ⟨h1, h2⟩ := List.getElem?_eq_some_iff.1 hi
  subst h2
  exact h.pair i h1

theorem pcells_take (l : List (Int × Int)) (k : Nat) : pcells (l.take k) = (pcells l).take (k * 2) := by
  induction l generalizing k with
  | nil => simp [pcells]
  | cons x l ih =>
    cases k with
    | zero => simp [pcells]
    | succ k =>
      have := ih k
      simp only [pcells, List.take_succ_cons, List.flatMap_cons] at this ⊢
      rw [this, show (k + 1) * 2 = k * 2 + 1 + 1 by omega]
      simp
theorem pcells_drop (l : List (Int × Int)) (k : Nat) : pcells (l.drop k) = (pcells l).drop (k * 2) := by
  induction l generalizing k with
  | nil => simp [pcells]
  | cons x l ih =>
    cases k with
    | zero => simp [pcells]
    | succ k =>
      have := ih k
      simp only [pcells, List.drop_succ_cons, List.flatMap_cons] at this ⊢
      rw [this, show (k + 1) * 2 = k * 2 + 1 + 1 by omega]
      simp
theorem pcells_append (l l' : List (Int × Int)) : pcells (l ++ l') = pcells l ++ pcells l' := by simp [pcells]
theorem pcells_one (l : List (Int × Int)) : ∀ u ∈ pcells l, u.oneCell' = true := by
  intro u hu
  simp only [pcells, List.mem_flatMap] at hu
  obtain ⟨e, _, he⟩ := hu
  simp at he
  rcases he with rfl | rfl <;> rfl

/-- The cells of a row of numbers. -/
def icells (l : List Int) : List Value := l.map fun x => .int .i64 x
theorem icells_length (l : List Int) : (icells l).length = l.length := by simp [icells]
theorem icells_get (l : List Int) (i : Nat) (x : Int) (h : l[i]? = some x) : (icells l)[i]? = some (.int .i64 x) := by simp [icells, h]
theorem icells_one (l : List Int) : ∀ u ∈ icells l, u.oneCell' = true := by
  intro u hu
  simp only [icells, List.mem_map] at hu
  obtain ⟨x, _, rfl⟩ := hu
  rfl
theorem icells_append (l l' : List Int) : icells (l ++ l') = icells l ++ icells l' := by simp [icells]
theorem Reads.int {w : World} {A : Option Addr} {l : List Int} (h : Reads w A (icells l)) (i : Nat) (x : Int) (hi : l[i]? = some x) :
    ∃ b o, A = some ⟨b, o, none⟩ ∧ b < w.heap.size ∧ w.cell? ⟨b, o + i, none⟩ = some (.int .i64 x) := by
  rcases h with h | ⟨b, o, h1, h2, h3⟩
  · have := icells_get l i x hi; rw [h] at this; simp at this
  · exact ⟨b, o, h1, h2, h3 _ _ (icells_get l i x hi)⟩

end Go.Proofs.Ytgddfmfiiodgbaa

/- Arguments opened: a row of numbers, a row of edges (or entries), a graph. -/
namespace Go.Proofs.Ytgddfmfiiodgbaa
open Go Go.RowKit Go.WideShapes Go.ChangeShapes
set_option maxRecDepth 100000
set_option linter.unusedVariables false
set_option linter.unusedSimpArgs false

theorem reach_num : reachBytes = 140737488351232 := by decide +kernel
theorem laidT : laidOutB Try.prog = true := by kernel_rfl
theorem cells_int1 : Try.prog.cellsOf 3 = 1 := by kernel_rfl
theorem bytes_int8 : Try.prog.bytesOf 3 = 8 := by kernel_rfl
theorem wf_bd {x : Int} (h : (Lit.int .i64 x).wf = true) : -9223372036854775808 ≤ x ∧ x ≤ 9223372036854775807 := by
  simp [Lit.wf, IntKind.min, IntKind.max, IntKind.signed, IntKind.bits] at h
  omega

def Fit (l : List Int) : Prop := ∀ x ∈ l, -9223372036854775808 ≤ x ∧ x ≤ 9223372036854775807
def FitP (l : List (Int × Int)) : Prop := ∀ e ∈ l, (-9223372036854775808 ≤ e.1 ∧ e.1 ≤ 9223372036854775807) ∧ (-9223372036854775808 ≤ e.2 ∧ e.2 ≤ 9223372036854775807)

section
variable {H : Type} {enc : TypeId × Value → H} {W : World} {base : Nat} {v : Value} {d : DataW H} {p : List MemPlace}

theorem cell_lt {a : Addr} {u : Value} (h : W.cell? a = some u) : a.block < W.heap.size := by
  rcases Nat.lt_or_ge a.block W.heap.size with hl | hl
  · exact hl
  · unfold World.cell? at h; rw [Array.getElem?_eq_none hl] at h; simp at h

/-- An address behind a slice that is read is plain where there is a cell. -/
theorem reads_of {a : Addr} {cs : List Value} (h : ∀ i u, cs[i]? = some u → W.cell? (a.add i) = some u) : Reads W (some a) cs := by
  by_cases h0 : cs = []
  · exact .inl h0
  · have hp : 0 < cs.length := List.length_pos_iff.2 h0
    obtain ⟨b, o, s⟩ := a
    have h1 := h 0 cs[0] (by simp [hp])
    have hspot : s = none := by simpa [Addr.add] using World.cell?_spot h1
    subst hspot
    refine .inr ⟨b, o, rfl, ?_, fun j u hj => ?_⟩
    · have := cell_lt h1
      simpa [Addr.add] using this
    · rw [← Go.WideShapes.add_plain]
      exact h j u hj

theorem op_ints (hok : Value.okWide Try.prog W .any base 22 v) (h : DataW.Trod enc Try.prog W 0 (fun _ => true) true 22 v d p) (hsz : ∀ x ∈ d.weights Try.prog 22, x ≤ reachBytes) :
    ∃ (A : Option Addr) (c : Nat) (zs : List Int), v = .slice A zs.length c ∧ zs.length ≤ c ∧ Reads W A (icells zs) ∧ c * 8 ≤ 140737488351232 ∧ Fit zs := by
  obtain ⟨a0, len, cap, rfl⟩ := okWide_slice Try.underlying22 hok
  obtain ⟨fuel, hf⟩ := h
  rcases open_ints Try.underlying22 Try.underlying3 cells_int1 hf with ⟨hcs, hx⟩ | ⟨a, len', cap', zs, hcs, _, hl, hm, hz, hx, hcell, hwz⟩
  · simp [Value.cells] at hcs
    obtain ⟨rfl, rfl, rfl⟩ := hcs
    exact ⟨none, 0, [], rfl, Nat.le_refl _, .inl rfl, by omega, by intro x hx; simp at hx⟩
  · simp [Value.cells] at hcs
    obtain ⟨rfl, rfl, rfl⟩ := hcs
    simp only [Prod.mk.injEq] at hx
    obtain ⟨rfl, rfl⟩ := hx
    simp only [if_true] at hz
    have hs := hsz (cap * 8) (by simp [DataW.weights, Try.underlying22, bytes_int8, lits]; left; omega)
    rw [reach_num] at hs
    have htl : (zs.take len).length = len := by simp; omega
    refine ⟨some a, cap, zs.take len, by rw [htl], by omega, reads_of fun i u hu => ?_, hs, fun x hx => wf_bd (hwz x (List.mem_of_mem_take hx))⟩
    have hi : i < len := by have := (List.getElem?_eq_some_iff.1 hu).1; rw [icells_length, htl] at this; exact this
    rw [hcell i (by omega)]
    simp [icells, hi] at hu
    obtain ⟨x, hx1, rfl⟩ := hu
    simp [List.getD, hx1]

theorem cells_edge2 : Try.prog.cellsOf 49 = 2 := by kernel_rfl
theorem bytes_edge : Try.prog.bytesOf 49 = 16 := by kernel_rfl

def int2 (v : Value) : Int := match v with | .int _ x => x | _ => 0
theorem op_pairs {fuel : Nat} {u : Value} {x : DataW H × List MemPlace} (hf : DataW.trod enc Try.prog W 0 (fun _ => true) true fuel 23 [u] = some x) (hsz : ∀ y ∈ x.1.weights Try.prog 23, y ≤ reachBytes) :
    ∃ (A : Option Addr) (c : Nat) (es : List (Int × Int)), u = .slice A es.length c ∧ es.length ≤ c ∧ Reads W A (pcells es) ∧ c * 16 ≤ 140737488351232 ∧ FitP es := by
  rcases Deep.open_slice_pairs Try.underlying23 Try.underlying49 cells_edge2 rfl rfl cells_int1 cells_int1 hf with ⟨hcs, hx⟩ | ⟨a, len, cap, m, n, V0, V1, D0, D1, P0, P1, hcs, _, hl, hm, hmm, hx, hcell⟩
  · simp at hcs
    subst hcs
    exact ⟨none, 0, [], rfl, Nat.le_refl _, .inl rfl, by omega, by intro x hx; simp at hx⟩
  · simp at hcs
    subst hcs hx
    simp only [if_true] at hmm
    subst hmm
    have hs := hsz (m * 16) (by simp [DataW.weights, Try.underlying23, bytes_edge]; left; omega)
    rw [reach_num] at hs
    have each : ∀ i, i < m → ∃ e : Int × Int, V0 i = .int .i64 e.1 ∧ V1 i = .int .i64 e.2 ∧ (Lit.int .i64 e.1).wf = true ∧ (Lit.int .i64 e.2).wf = true := by
      intro i hi
      obtain ⟨_, _, h0, h1⟩ := hcell i hi
      obtain ⟨x0, e0, _, w0⟩ := DataW.trod_int Try.underlying3 h0
      obtain ⟨x1, e1, _, w1⟩ := DataW.trod_int Try.underlying3 h1
      simp at e0 e1
      exact ⟨(x0, x1), e0, e1, w0, w1⟩
    let F : Nat → Int × Int := fun i => (int2 (V0 i), int2 (V1 i))
    have hF : ∀ i, i < m → V0 i = .int .i64 (F i).1 ∧ V1 i = .int .i64 (F i).2 ∧ (Lit.int .i64 (F i).1).wf = true ∧ (Lit.int .i64 (F i).2).wf = true := by
      intro i hi
      obtain ⟨⟨x, y⟩, h0, h1, h2, h3⟩ := each i hi
      simp only [F, h0, h1, int2]
      exact ⟨trivial, trivial, h2, h3⟩
    refine ⟨some a, m, (List.range len).map F, by simp, by simpa using hl, reads_of fun i u hu => ?_, hs, ?_⟩
    · have hi : i < 2 * len := by have := (List.getElem?_eq_some_iff.1 hu).1; rw [pcells_length] at this; simpa using this
      have hj : i / 2 < len := by omega
      have hp := pcells_get ((List.range len).map F) (i / 2) (F (i / 2)) (by simp [hj])
      obtain ⟨c0, c1, _, _⟩ := hcell (i / 2) (by omega)
      obtain ⟨g0, g1, _, _⟩ := hF (i / 2) (by omega)
      rcases Nat.mod_two_eq_zero_or_one i with hi2 | hi2
      · have e : i = 2 * (i / 2) := by omega
        rw [← e] at hp
        rw [hp.1] at hu
        cases hu
        rw [Nat.mul_comm, ← e] at c0
        rw [c0, g0]
      · have e : i = 2 * (i / 2) + 1 := by omega
        rw [← e] at hp
        rw [hp.2] at hu
        cases hu
        rw [Nat.mul_comm, ← e] at c1
        rw [c1, g1]
    · intro e he
      obtain ⟨i, hi, rfl⟩ := List.mem_map.1 he
      obtain ⟨_, _, w0, w1⟩ := hF i (by have := List.mem_range.1 hi; omega)
      exact ⟨wf_bd w0, wf_bd w1⟩

theorem op_edges (hok : Value.okWide Try.prog W .any base 23 v) (h : DataW.Trod enc Try.prog W 0 (fun _ => true) true 23 v d p) (hsz : ∀ x ∈ d.weights Try.prog 23, x ≤ reachBytes) :
    ∃ (A : Option Addr) (c : Nat) (es : List (Int × Int)), v = .slice A es.length c ∧ es.length ≤ c ∧ Reads W A (pcells es) ∧ c * 16 ≤ 140737488351232 ∧ FitP es := by
  obtain ⟨a0, len, cap, rfl⟩ := okWide_slice Try.underlying23 hok
  obtain ⟨fuel, hf⟩ := h
  exact op_pairs (u := .slice a0 len cap) hf hsz

theorem op_graph (hok : Value.okWide Try.prog W .any base 25 v) (h : DataW.Trod enc Try.prog W 0 (fun _ => true) true 25 v d p) (hsz : ∀ x ∈ d.weights Try.prog 25, x ≤ reachBytes) :
    ∃ (n : Int) (A : Option Addr) (c : Nat) (es : List (Int × Int)), v = .agg #[.int .i64 n, .slice A es.length c] ∧ es.length ≤ c ∧ Reads W A (pcells es) ∧ c * 16 ≤ 140737488351232 ∧ FitP es ∧ -9223372036854775808 ≤ n ∧ n ≤ 9223372036854775807 := by
  obtain ⟨v0, v1, y0, y1, n, rfl, rfl, rfl, h0, h1⟩ := Joins.open_agg2 Try.underlying25 (by kernel_rfl) (by kernel_rfl) hok h
  obtain ⟨x0, e0, _, w0⟩ := DataW.trod_int Try.underlying3 h0
  simp at e0
  subst e0
  obtain ⟨A, c, es, rfl, hc, hr, hs, hf⟩ := op_pairs (u := v1) h1 (fun y hy => hsz y (by
    simp only [DataW.weights, Try.underlying25, List.map_cons, List.map_nil, DataW.weightsEach, List.append_nil, List.mem_append]
    exact .inr hy))
  exact ⟨x0, A, c, es, rfl, hc, hr, hs, hf, wf_bd w0⟩
end
end Go.Proofs.Ytgddfmfiiodgbaa
