/- A region that draws its order: a head of operations that only read (they may draw), then a tail in one forced order. One walk of the head in the order of the text serves every order. -/
import Derived.BigQuiet
import Derived.StillTail
import Derived.Deep.QuietTactic
import Derived.WalkKit
import Derived.WalkSpells
import Derived.Deep.LoopGhost
import Derived.Handy
import Derived.StillTailTactics
import Derived.Deep.RegionHeld3
import Derived.Deep.DeepCutAuto
import Derived.Lib.Hide
import Derived.Test.YtglhdoibglafbaaProg
import Derived.SizedLaws
import Derived.Deep.SlicePairs
import Derived.Deep.Slices
import Derived.Lib.SmallJoins
import Derived.OpenShut
import Derived.WideShapes
import Derived.Maps.AppendAt
import Derived.Deep.AppendLies
import Derived.RegionTactic
import Derived.OwnWalk
namespace Go.Proofs.Ytglhdoibglafbaa
open Go Go.RowKit
set_option maxRecDepth 100000
set_option linter.unusedVariables false

section
variable {P : Program} {md : Region.Mode} {ops : Array Oper} {C : World → Prop}

/-- From here on the head's operations come up, in whatever order; then L holds. -/
def headQ (P : Program) (md : Region.Mode) (ops : Array Oper) (C : World → Prop) (n : Nat) (L : Array Bool → Act → Prop) : Nat → Array Bool → Act → Prop
  | 0, l, a => L l a
  | f + 1, l, a => Region.ready md ops l ≠ [] ∧ ∀ i, i ∈ Region.ready md ops l → i < n ∧ qOp P ops C i (headQ P md ops C n L f (l.setIfInBounds i true)) a

theorem any_of_headQ {n g : Nat} {L : Array Bool → Act → Prop} {R : Exit → Act → World → Prop} (hL : ∀ l a w, C w → L l a → wpAny P md ops R g l a w) (f : Nat) :
    ∀ (l : Array Bool) (a : Act) (w : World), C w → headQ P md ops C n L f l a → wpAny P md ops R (f + g) l a w := by
  induction f with
  | zero => intro l a w hw h; rw [Nat.zero_add]; exact hL l a w hw h
  | succ f ih =>
    intro l a w hw h
    rw [Nat.add_right_comm]
    refine ⟨fun h0 => absurd h0 h.1, fun i hi => ?_⟩
    exact wpOp_of_qOp hw (fun a' w' hw' h' => ih _ a' w' hw' h') (h.2 i hi).2

theorem headQ_first {n i : Nat} {oi : Oper} {v : Value} {L : Array Bool → Act → Prop} (hi : ops[i]? = some oi) (hsel : ∀ (j : Nat) (o : Oper) cs b, ops[j]? = some o → o.op ≠ .select cs b)
    (hs : Region.sinkB md ops n = true) (hc : Region.chainB md ops n = true) (hn : n < ops.size) (hin : i < n)
    (hdone : ∀ l a, L l a → ∀ j, j ∈ Region.ready md ops l → n ≤ j) (f : Nat) :
    ∀ (l : Array Bool) (a : Act), HeadInv md ops n l →
      (∀ j oj, ops[j]? = some oj → j ≠ i → l.getD j true = false → (∀ e ∈ oj.after, Region.binds md e = true → e.on ≠ i) → oi.apart ops oj = true) →
      i ∈ Region.ready md ops l → YieldsIn P ops C oi v a →
      headQ P md ops C n L f (l.setIfInBounds i true) (a.put oi.dst v) → headQ P md ops C n L (f + 1) l a := by
  induction f with
  | zero =>
    intro l a inv hfree hr hy H
    have hun := (mem_ready.1 hr).1
    refine ⟨List.ne_nil_of_mem hr, fun j hj => ?_⟩
    have hjn : j < n := Nat.lt_of_not_le fun h => tail_waits hs hc hn inv _ i rfl hin hun j h hj
    refine ⟨hjn, ?_⟩
    by_cases hji : j = i
    · subst hji; exact hy.qOp hi H
    · exact absurd (hdone _ _ H j (ready_mono hj hji)) (by omega)
  | succ f ih =>
    intro l a inv hfree hr hy H
    have hun := (mem_ready.1 hr).1
    refine ⟨List.ne_nil_of_mem hr, fun j hj => ?_⟩
    have hjn : j < n := Nat.lt_of_not_le fun h => tail_waits hs hc hn inv _ i rfl hin hun j h hj
    refine ⟨hjn, ?_⟩
    by_cases hji : j = i
    · subst hji; exact hy.qOp hi H
    obtain ⟨hjun, oj, hoj, hall⟩ := mem_ready.1 hj
    have hnot : ∀ e ∈ oj.after, Region.binds md e = true → e.on ≠ i := fun e he hb heq => by
      have h1 := hall e he hb
      rw [heq, getD_both hun] at h1
      cases h1
    have hput := qOp_put hoj (hfree j oj hoj hji hjun hnot) (fun cs b => hsel i oi cs b hi) (fun cs b => hsel j oj cs b hoj) hy (H.2 j (ready_mono hj hji)).2
    refine qOp_mono (fun a' h3 => ih (l.setIfInBounds j true) a' (inv.set hj hjn) (fun k ok hk hki hu hno => hfree k ok hk hki ?_ hno) (ready_mono hr (Ne.symm hji)) h3.1 ?_) hput
    · by_cases hjk : j = k
      · subst hjk; exact hjun
      · rw [getD_set_ne true hjk] at hu; exact hu
    · rw [Array.setIfInBounds_comm _ _ hji]; exact h3.2

theorem headQ_lex {n g : Nat} {Lq : Act → Prop} (hsel : Region.noSelect ops = true) (hs : Region.sinkB md ops n = true) (hc : Region.chainB md ops n = true) (hn : n < ops.size) (os : List Oper) :
    ∀ (k : Nat) (l : Array Bool) (a : Act), (∀ j, j < os.length → os[j]? = ops[k + j]?) → k + os.length = n → HeadInv md ops n l →
    Region.lexHead md ops g os.length k l = true → wpQuiet P ops C Lq os a →
    headQ P md ops C n (fun l' a' => Region.seqB md ops g n l' = true ∧ Lq a') os.length l a := by
  induction os with
  | nil =>
    intro k l a _ hk _ hB h
    obtain rfl : k = n := by simpa using hk
    exact ⟨by simpa [Region.lexHead] using hB, h⟩
  | cons o os ih =>
    intro k l a hl hk inv hB h
    have h0 : ops[k]? = some o := by simpa using (hl 0 (by simp)).symm
    simp only [List.length_cons, Region.lexHead, Bool.and_eq_true] at hB
    have hkn : k < n := by simp only [List.length_cons] at hk; omega
    have hr : k ∈ Region.ready md ops l := by simpa using hB.1.1
    have hq : qOp P ops C k (wpQuiet P ops C Lq os) a := by unfold qOp; simp only [h0]; exact h
    obtain ⟨v, hy, hK⟩ := yieldsIn_of_qOp h0 hq
    refine headQ_first h0 (Region.noSelect_spec hsel) hs hc hn hkn (fun l' a' hL => seqB_ready hL.1) os.length l a inv (Region.free_spec h0 hB.1.2) hr hy (ih (k + 1) _ _ (fun j hj => ?_) (by simp only [List.length_cons] at hk; omega) (inv.set hr hkn) hB.2 hK)
    have := hl (j + 1) (by simp; omega)
    simpa [Nat.add_assoc, Nat.add_comm 1 j] using this

/-- The head (n operations) reads alone, the tail goes in one order. -/
theorem wp_quiet_tail {id : Nat} {Q : Exit → Act → World → Prop} {a : Act} {w : World} {l : List Oper} (n : Nat) (hm : P.follows .mixedOrders = true) (hB : Region.lexTailB .any l.toArray n = true)
    (h : wpQuiet P l.toArray (fun w' => ∃ m, w' = w.drewN m) (fun a' => ∀ w', (∃ m, w' = w.drewN m) → wpList P l.toArray Q (l.drop n) a' w') (l.take n) a) : (Code.region id l.toArray true).wp P Q a w := by
  simp only [Region.lexTailB, Bool.and_eq_true, decide_eq_true_eq] at hB
  obtain ⟨⟨⟨⟨hsel, hn⟩, hs⟩, hc⟩, hlex⟩ := hB
  have hn' : n < l.length := by simpa using hn
  have htl : (l.take n).length = n := by simp; omega
  have hdl : (l.drop n).length = l.toArray.size - n := by simp
  have inv0 : HeadInv .any l.toArray n (Array.replicate l.toArray.size false) :=
    ⟨by simp, fun j oj _ hl => (by rw [getD_replicate_false] at hl; cases hl), fun t _ ht => getD_in (by simpa using ht) (getD_replicate_false _ _)⟩
  have H := headQ_lex (md := .any) (g := l.toArray.size - n) hsel hs hc hn (l.take n) 0 _ a (fun j hj => by
    have hj' : j < n := by rw [htl] at hj; exact hj
    simp [hj']) (by simpa using htl) inv0 (by rw [htl]; exact hlex) h
  refine wp_region_any hm ?_
  have := any_of_headQ (R := Q) (g := l.toArray.size - n) (fun l' a' w' hw' hL => by
    have := wpAny_of_seq (md := .any) (Q' := Q) (l.drop n) n l' a' w' (fun j => by simp [List.getElem?_drop]) (by rw [hdl]; exact hL.1) (hL.2 w' hw')
    rwa [hdl] at this) _ _ _ _ (⟨1, rfl⟩ : ∃ m, { w with drawn := w.drawn + 1 } = w.drewN m) H
  rw [htl, show n + (l.toArray.size - n) = l.toArray.size by omega] at this
  exact this
end
end Go.Proofs.Ytglhdoibglafbaa

/- My own base lemmas for the walks (no program in sight). -/
namespace Go.Proofs.Ytglhdoibglafbaa
open Go Go.RowKit
set_option maxRecDepth 100000
set_option linter.unusedVariables false

theorem wp_tail {P : Program} {id : Nat} {Q : Exit → Act → World → Prop} {a : Act} {w : World} {l : List Oper} (n : Nat) (hm : P.follows .mixedOrders = true) (hB : Region.lexTailB .any l.toArray n = true)
    (h : wpStill P l.toArray w.drew (fun a' => wpList P l.toArray Q (l.drop n) a' w.drew) (l.take n) a) : (Code.region id l.toArray true).wp P Q a w :=
  wp_region_still_tail n hm hB h

theorem flip_w {P : Program} {f : FuncId} {args : Array Value} {w : World} {v : Value} (h : Calls P f args w fun e w' => e = .returned v ∧ w = w') : Calls P f args w fun e w' => e = .returned v ∧ w' = w :=
  h.mono fun _ _ ⟨h1, h2⟩ => ⟨h1, h2.symm⟩

theorem below_drewN0 {B : Nat} {a w : World} (h : Below B a w) (n : Nat) : Below B a (w.drewN n) := ⟨h.os, h.tape, h.output, h.size, h.block⟩

/-- The cells of a row of edges (or entries): two numbers each. -/
def pcells (l : List (Int × Int)) : List Value := l.flatMap fun e => [.int .i64 e.1, .int .i64 e.2]
theorem pcells_length (l : List (Int × Int)) : (pcells l).length = 2 * l.length := by
  induction l with
  | nil => rfl
  | cons x l ih => simp [pcells] at ih ⊢; omega
theorem pcells_get (l : List (Int × Int)) (i : Nat) (e : Int × Int) (h : l[i]? = some e) : (pcells l)[2 * i]? = some (.int .i64 e.1) ∧ (pcells l)[2 * i + 1]? = some (.int .i64 e.2) := by
  induction l generalizing i with
  | nil => simp at h
  | cons x l ih =>
    cases i with
    | zero => simp at h; subst h; simp [pcells]
    | succ i =>
      simp at h
      have := ih i h
      simp only [pcells, List.flatMap_cons] at this ⊢
      have e1 : 2 * (i + 1) = 2 + 2 * i := by omega
      rw [e1]
      constructor
      · rw [List.getElem?_append_right (by simp)]; simpa using this.1
      · rw [show 2 + 2 * i + 1 = 2 + (2 * i + 1) by omega, List.getElem?_append_right (by simp)]; simpa using this.2

/-- Cells that are read from an address on. -/
def Reads (w : World) (A : Option Addr) (cs : List Value) : Prop :=
  cs = [] ∨ ∃ b o, A = some ⟨b, o, none⟩ ∧ b < w.heap.size ∧ ∀ j v, cs[j]? = some v → w.cell? ⟨b, o + j, none⟩ = some v

theorem Reads.below {w w1 : World} {A : Option Addr} {cs : List Value} (h : Reads w A cs) (hb : Below w.heap.size w w1) : Reads w1 A cs := by
  rcases h with h | ⟨b, o, h1, h2, h3⟩
  · exact .inl h
  · exact .inr ⟨b, o, h1, Nat.lt_of_lt_of_le h2 hb.size, fun j v hj => (hb.cell (p := ⟨b, o + j, none⟩) h2).trans (h3 j v hj)⟩

/-- Two numbers of a row of edges. -/
theorem Reads.pair {w : World} {A : Option Addr} {l : List (Int × Int)} (h : Reads w A (pcells l)) (i : Nat) (hi : i < l.length) :
    ∃ b o, A = some ⟨b, o, none⟩ ∧ b < w.heap.size ∧ w.cell? ⟨b, o + i * 2, none⟩ = some (.int .i64 (l[i]).1) ∧ w.cell? ⟨b, o + i * 2 + 1, none⟩ = some (.int .i64 (l[i]).2) := by
  rcases h with h | ⟨b, o, h1, h2, h3⟩
  · have := pcells_length l; rw [h] at this; simp at this; omega
  · obtain ⟨g1, g2⟩ := pcells_get l i l[i] (by simp [hi])
    rw [Nat.mul_comm 2 i] at g1 g2
    exact ⟨b, o, h1, h2, h3 _ _ g1, h3 _ _ g2⟩

theorem Reads.pair' {w : World} {A : Option Addr} {l : List (Int × Int)} (h : Reads w A (pcells l)) (i : Nat) (e : Int × Int) (hi : l[i]? = some e) :
    ∃ b o, A = some ⟨b, o, none⟩ ∧ b < w.heap.size ∧ w.cell? ⟨b, o + i * 2, none⟩ = some (.int .i64 e.1) ∧ w.cell? ⟨b, o + i * 2 + 1, none⟩ = some (.int .i64 e.2) := by
  obtain ⟨h1, h2⟩ := List.getElem?_eq_some_iff.1 hi
  subst h2
  exact h.pair i h1

theorem pcells_take (l : List (Int × Int)) (k : Nat) : pcells (l.take k) = (pcells l).take (k * 2) := by
  induction l generalizing k with
  | nil => simp [pcells]
  | cons x l ih =>
    cases k with
    | zero => simp [pcells]
    | succ k =>
      have := ih k
      simp only [pcells, List.take_succ_cons, List.flatMap_cons] at this ⊢
      rw [this, show (k + 1) * 2 = k * 2 + 1 + 1 by omega]
      simp
theorem pcells_drop (l : List (Int × Int)) (k : Nat) : pcells (l.drop k) = (pcells l).drop (k * 2) := by
  induction l generalizing k with
  | nil => simp [pcells]
  | cons x l ih =>
    cases k with
    | zero => simp [pcells]
    | succ k =>
      have := ih k
      simp only [pcells, List.drop_succ_cons, List.flatMap_cons] at this ⊢
      rw [this, show (k + 1) * 2 = k * 2 + 1 + 1 by omega]
      simp
theorem pcells_append (l l' : List (Int × Int)) : pcells (l ++ l') = pcells l ++ pcells l' := by simp [pcells]
theorem pcells_one (l : List (Int × Int)) : ∀ u ∈ pcells l, u.oneCell' = true := by
  intro u hu
  simp only [pcells, List.mem_flatMap] at hu
  obtain ⟨e, _, he⟩ := hu
  simp at he
  rcases he with rfl | rfl <;> rfl

/-- The cells of a row of numbers. -/
def icells (l : List Int) : List Value := l.map fun x => .int .i64 x
theorem icells_length (l : List Int) : (icells l).length = l.length := by simp [icells]
theorem icells_get (l : List Int) (i : Nat) (x : Int) (h : l[i]? = some x) : (icells l)[i]? = some (.int .i64 x) := by simp [icells, h]
theorem icells_one (l : List Int) : ∀ u ∈ icells l, u.oneCell' = true := by
  intro u hu
  simp only [icells, List.mem_map] at hu
  obtain ⟨x, _, rfl⟩ := hu
  rfl
theorem icells_append (l l' : List Int) : icells (l ++ l') = icells l ++ icells l' := by simp [icells]
theorem Reads.int {w : World} {A : Option Addr} {l : List Int} (h : Reads w A (icells l)) (i : Nat) (x : Int) (hi : l[i]? = some x) :
    ∃ b o, A = some ⟨b, o, none⟩ ∧ b < w.heap.size ∧ w.cell? ⟨b, o + i, none⟩ = some (.int .i64 x) := by
  rcases h with h | ⟨b, o, h1, h2, h3⟩
  · have := icells_get l i x hi; rw [h] at this; simp at this
  · exact ⟨b, o, h1, h2, h3 _ _ (icells_get l i x hi)⟩

end Go.Proofs.Ytglhdoibglafbaa

/- Arguments opened: a row of numbers, a row of edges (or entries), a graph. -/
namespace Go.Proofs.Ytglhdoibglafbaa
open Go Go.RowKit Go.WideShapes Go.ChangeShapes
set_option maxRecDepth 100000
set_option linter.unusedVariables false

theorem reach_num : reachBytes = 140737488351232 := by decide +kernel
theorem laidT : laidOutB Try.prog = true := by kernel_rfl
theorem cells_int1 : Try.prog.cellsOf 3 = 1 := by kernel_rfl
theorem bytes_int8 : Try.prog.bytesOf 3 = 8 := by kernel_rfl
theorem wf_bd {x : Int} (h : (Lit.int .i64 x).wf = true) : -9223372036854775808 ≤ x ∧ x ≤ 9223372036854775807 := by
  simp [Lit.wf, IntKind.min, IntKind.max, IntKind.signed, IntKind.bits] at h
  omega

def Fit (l : List Int) : Prop := ∀ x ∈ l, -9223372036854775808 ≤ x ∧ x ≤ 9223372036854775807
def FitP (l : List (Int × Int)) : Prop := ∀ e ∈ l, (-9223372036854775808 ≤ e.1 ∧ e.1 ≤ 9223372036854775807) ∧ (-9223372036854775808 ≤ e.2 ∧ e.2 ≤ 9223372036854775807)

section
variable {H : Type} {enc : TypeId × Value → H} {W : World} {base : Nat} {v : Value} {d : DataW H} {p : List MemPlace}

theorem cell_lt {a : Addr} {u : Value} (h : W.cell? a = some u) : a.block < W.heap.size := by
  rcases Nat.lt_or_ge a.block W.heap.size with hl | hl
  · exact hl
  · unfold World.cell? at h; rw [Array.getElem?_eq_none hl] at h; simp at h

/-- An address behind a slice that is read is plain where there is a cell. -/
theorem reads_of {a : Addr} {cs : List Value} (h : ∀ i u, cs[i]? = some u → W.cell? (a.add i) = some u) : Reads W (some a) cs := by
  by_cases h0 : cs = []
  · exact .inl h0
  · have hp : 0 < cs.length := List.length_pos_iff.2 h0
    obtain ⟨b, o, s⟩ := a
    have h1 := h 0 cs[0] (by simp [hp])
    have hspot : s = none := by simpa [Addr.add] using World.cell?_spot h1
    subst hspot
    refine .inr ⟨b, o, rfl, ?_, fun j u hj => ?_⟩
    · have := cell_lt h1
      simpa [Addr.add] using this
    · rw [← Go.WideShapes.add_plain]
      exact h j u hj

theorem op_ints (hok : Value.okWide Try.prog W .any base 26 v) (h : DataW.Trod enc Try.prog W 0 (fun _ => true) true 26 v d p) (hsz : ∀ x ∈ d.weights Try.prog 26, x ≤ reachBytes) :
    ∃ (A : Option Addr) (c : Nat) (zs : List Int), v = .slice A zs.length c ∧ zs.length ≤ c ∧ Reads W A (icells zs) ∧ c * 8 ≤ 140737488351232 ∧ Fit zs := by
  obtain ⟨a0, len, cap, rfl⟩ := okWide_slice Try.underlying26 hok
  obtain ⟨fuel, hf⟩ := h
  rcases open_ints Try.underlying26 Try.underlying3 cells_int1 hf with ⟨hcs, hx⟩ | ⟨a, len', cap', zs, hcs, _, hl, hm, hz, hx, hcell, hwz⟩
  · simp [Value.cells] at hcs
    obtain ⟨rfl, rfl, rfl⟩ := hcs
    exact ⟨none, 0, [], rfl, Nat.le_refl _, .inl rfl, by omega, by intro x hx; simp at hx⟩
  · simp [Value.cells] at hcs
    obtain ⟨rfl, rfl, rfl⟩ := hcs
    simp only [Prod.mk.injEq] at hx
    obtain ⟨rfl, rfl⟩ := hx
    simp only [if_true] at hz
    have hs := hsz (cap * 8) (by simp [DataW.weights, Try.underlying26, bytes_int8, lits]; left; omega)
    rw [reach_num] at hs
    have htl : (zs.take len).length = len := by simp; omega
    refine ⟨some a, cap, zs.take len, by rw [htl], by omega, reads_of fun i u hu => ?_, hs, fun x hx => wf_bd (hwz x (List.mem_of_mem_take hx))⟩
    have hi : i < len := by have := (List.getElem?_eq_some_iff.1 hu).1; rw [icells_length, htl] at this; exact this
    rw [hcell i (by omega)]
    simp [icells, hi] at hu
    obtain ⟨x, hx1, rfl⟩ := hu
    simp [List.getD, hx1]

theorem cells_edge2 : Try.prog.cellsOf 28 = 2 := by kernel_rfl
theorem bytes_edge : Try.prog.bytesOf 28 = 16 := by kernel_rfl

def int2 (v : Value) : Int := match v with | .int _ x => x | _ => 0
theorem op_pairs {fuel : Nat} {u : Value} {x : DataW H × List MemPlace} (hf : DataW.trod enc Try.prog W 0 (fun _ => true) true fuel 23 [u] = some x) (hsz : ∀ y ∈ x.1.weights Try.prog 23, y ≤ reachBytes) :
    ∃ (A : Option Addr) (c : Nat) (es : List (Int × Int)), u = .slice A es.length c ∧ es.length ≤ c ∧ Reads W A (pcells es) ∧ c * 16 ≤ 140737488351232 ∧ FitP es := by
  rcases Deep.open_slice_pairs Try.underlying23 Try.underlying28 cells_edge2 rfl rfl cells_int1 cells_int1 hf with ⟨hcs, hx⟩ | ⟨a, len, cap, m, n, V0, V1, D0, D1, P0, P1, hcs, _, hl, hm, hmm, hx, hcell⟩
  · simp at hcs
    subst hcs
    exact ⟨none, 0, [], rfl, Nat.le_refl _, .inl rfl, by omega, by intro x hx; simp at hx⟩
  · simp at hcs
    subst hcs hx
    simp only [if_true] at hmm
    subst hmm
    have hs := hsz (m * 16) (by simp [DataW.weights, Try.underlying23, bytes_edge]; left; omega)
    rw [reach_num] at hs
    have each : ∀ i, i < m → ∃ e : Int × Int, V0 i = .int .i64 e.1 ∧ V1 i = .int .i64 e.2 ∧ (Lit.int .i64 e.1).wf = true ∧ (Lit.int .i64 e.2).wf = true := by
      intro i hi
      obtain ⟨_, _, h0, h1⟩ := hcell i hi
      obtain ⟨x0, e0, _, w0⟩ := DataW.trod_int Try.underlying3 h0
      obtain ⟨x1, e1, _, w1⟩ := DataW.trod_int Try.underlying3 h1
      simp at e0 e1
      exact ⟨(x0, x1), e0, e1, w0, w1⟩
    let F : Nat → Int × Int := fun i => (int2 (V0 i), int2 (V1 i))
    have hF : ∀ i, i < m → V0 i = .int .i64 (F i).1 ∧ V1 i = .int .i64 (F i).2 ∧ (Lit.int .i64 (F i).1).wf = true ∧ (Lit.int .i64 (F i).2).wf = true := by
      intro i hi
      obtain ⟨⟨x, y⟩, h0, h1, h2, h3⟩ := each i hi
      simp only [F, h0, h1, int2]
      exact ⟨trivial, trivial, h2, h3⟩
    refine ⟨some a, m, (List.range len).map F, by simp, by simpa using hl, reads_of fun i u hu => ?_, hs, ?_⟩
    · have hi : i < 2 * len := by have := (List.getElem?_eq_some_iff.1 hu).1; rw [pcells_length] at this; simpa using this
      have hj : i / 2 < len := by omega
      have hp := pcells_get ((List.range len).map F) (i / 2) (F (i / 2)) (by simp [hj])
      obtain ⟨c0, c1, _, _⟩ := hcell (i / 2) (by omega)
      obtain ⟨g0, g1, _, _⟩ := hF (i / 2) (by omega)
      rcases Nat.mod_two_eq_zero_or_one i with hi2 | hi2
      · have e : i = 2 * (i / 2) := by omega
        rw [← e] at hp
        rw [hp.1] at hu
        cases hu
        rw [Nat.mul_comm, ← e] at c0
        rw [c0, g0]
      · have e : i = 2 * (i / 2) + 1 := by omega
        rw [← e] at hp
        rw [hp.2] at hu
        cases hu
        rw [Nat.mul_comm, ← e] at c1
        rw [c1, g1]
    · intro e he
      obtain ⟨i, hi, rfl⟩ := List.mem_map.1 he
      obtain ⟨_, _, w0, w1⟩ := hF i (by have := List.mem_range.1 hi; omega)
      exact ⟨wf_bd w0, wf_bd w1⟩

theorem op_edges (hok : Value.okWide Try.prog W .any base 23 v) (h : DataW.Trod enc Try.prog W 0 (fun _ => true) true 23 v d p) (hsz : ∀ x ∈ d.weights Try.prog 23, x ≤ reachBytes) :
    ∃ (A : Option Addr) (c : Nat) (es : List (Int × Int)), v = .slice A es.length c ∧ es.length ≤ c ∧ Reads W A (pcells es) ∧ c * 16 ≤ 140737488351232 ∧ FitP es := by
  obtain ⟨a0, len, cap, rfl⟩ := okWide_slice Try.underlying23 hok
  obtain ⟨fuel, hf⟩ := h
  exact op_pairs (u := .slice a0 len cap) hf hsz

theorem op_graph (hok : Value.okWide Try.prog W .any base 25 v) (h : DataW.Trod enc Try.prog W 0 (fun _ => true) true 25 v d p) (hsz : ∀ x ∈ d.weights Try.prog 25, x ≤ reachBytes) :
    ∃ (n : Int) (A : Option Addr) (c : Nat) (es : List (Int × Int)), v = .agg #[.int .i64 n, .slice A es.length c] ∧ es.length ≤ c ∧ Reads W A (pcells es) ∧ c * 16 ≤ 140737488351232 ∧ FitP es ∧ -9223372036854775808 ≤ n ∧ n ≤ 9223372036854775807 := by
  obtain ⟨v0, v1, y0, y1, n, rfl, rfl, rfl, h0, h1⟩ := Joins.open_agg2 Try.underlying25 (by kernel_rfl) (by kernel_rfl) hok h
  obtain ⟨x0, e0, _, w0⟩ := DataW.trod_int Try.underlying3 h0
  simp at e0
  subst e0
  obtain ⟨A, c, es, rfl, hc, hr, hs, hf⟩ := op_pairs (u := v1) h1 (fun y hy => hsz y (by
    simp only [DataW.weights, Try.underlying25, List.map_cons, List.map_nil, DataW.weightsEach, List.append_nil, List.mem_append]
    exact .inr hy))
  exact ⟨x0, A, c, es, rfl, hc, hr, hs, hf, wf_bd w0⟩
end
end Go.Proofs.Ytglhdoibglafbaa

/- append onto a row of the call's own, the source nil or not; what a row owned reads as. -/
namespace Go.Proofs.Ytglhdoibglafbaa
open Go Go.RowKit
set_option maxRecDepth 100000
set_option linter.unusedVariables false

/-- An element type's row of the table. -/
structure EI (P : Program) (t e : TypeId) (z : Value) (size bytes : Nat) : Prop where
  ht : P.underlying t = some (.slice e)
  hinfo : (P.info? e).map (fun i => (i.zero, i.size, i.bytes)) = some (some z, size, bytes)
  hzs : z.cells.size = size
  hsz : 0 < size
  hby : 0 < bytes

section
variable {P : Program} {t e : TypeId} {z : Value} {size bytes : Nat}

theorem run_app (E : EI P t e z size bytes) (w : World) (ty : TypeId) (base : Nat) (v : Value) (n : Nat) (xs : List Value) (hown : w.ownsRow base e size v n xs)
    (A : Option Addr) (m c : Nat) (news : List Value) (hr : Reads w A news) (hl : news.length = m * size) (h1 : ∀ u ∈ news, u.oneCell' = true)
    (hb : (n + m) * bytes ≤ 140737488355328) (hbase : base ≤ w.heap.size) :
    ∃ v' w', (Builtin.append_ #[t, t] ty #[v, .slice A m c]).run P w = .ok v' w' ∧ w'.ownsRow base e size v' (n + m) (xs ++ news) ∧ w.grownBy w' v.ownBlock ∧
      (v'.ownBlock = v.ownBlock ∨ v'.ownBlock = some w.heap.size) := by
  obtain ⟨i, hi, hz, hsize, hbytes⟩ := info_parts E.hinfo
  cases A with
  | none =>
    have h0 : news = [] := by
      rcases hr with h | ⟨b, o, h, _⟩
      · exact h
      · cases h
    subst h0
    have hm : m = 0 := by
      have := E.hsz
      rcases Nat.mul_eq_zero.1 (show m * size = 0 by simpa using hl.symm) with h | h <;> omega
    subst hm
    refine ⟨v, w, ?_, by simpa using hown, World.grownBy.refl w _, .inl rfl⟩
    rcases hown.2 with ⟨rfl, rfl⟩ | ⟨g, cap, cur, rfl, _, _, hnc, _⟩
    · simp [Builtin.append_, run_underlying E.ht, sizeOf, typeInfo, hi, Builtin.lenOf, Builtin.firstCells]
    · simp [Builtin.append_, run_underlying E.ht, sizeOf, typeInfo, hi, Builtin.lenOf, Builtin.firstCells, hnc, storeCells]
  | some ad =>
    have hc : ∀ j u, news[j]? = some u → w.cell? (ad.add j) = some u := by
      intro j u hu
      rcases hr with h | ⟨b, o, h, _, hc⟩
      · subst h; simp at hu
      · injection h with h
        subst h
        have : (⟨b, o, none⟩ : Addr).add j = ⟨b, o + j, none⟩ := by unfold Addr.add; split <;> simp_all
        rw [this]
        exact hc j u hu
    have h63 : n + m ≤ maxLen := by
      have : (n + m) * 1 ≤ (n + m) * bytes := Nat.mul_le_mul_left _ E.hby
      unfold maxLen; omega
    obtain ⟨v', w', hrun, h2, h3, _, h5⟩ := run_append_own_at (P := P) w base t ty e i z size bytes E.ht hi hz hsize hbytes E.hzs E.hsz v n xs hown ad m c news hl hc h1 h63 hb hbase
    exact ⟨v', w', hrun, h2, h3, h5⟩

theorem wp_app (E : EI P t e z size bytes) {w : World} {o : Oper} {a : Act} {K : Act → World → Prop} {Q : Exit → Act → World → Prop} (s x : Operand)
    (ho : o.op = .call { callee := .builtin .append, args := #[s, x], argTypes := #[t, t] })
    (base : Nat) (v : Value) (n : Nat) (xs : List Value) (hs : a.eval s = v) (hown : w.ownsRow base e size v n xs)
    (A : Option Addr) (m c : Nat) (news : List Value) (hx : a.eval x = .slice A m c) (hr : Reads w A news) (hl : news.length = m * size) (h1 : ∀ u ∈ news, u.oneCell' = true)
    (hb : (n + m) * bytes ≤ 140737488355328) (hbase : base ≤ w.heap.size)
    (h : ∀ v' w', w'.ownsRow base e size v' (n + m) (xs ++ news) → w.grownBy w' v.ownBlock → (v'.ownBlock = v.ownBlock ∨ v'.ownBlock = some w.heap.size) → K (a.put o.dst v') w') : o.wp P a w K Q := by
  obtain ⟨v', w', hrun, h2, h3, h4⟩ := run_app E w o.type base v n xs hown A m c news hr hl h1 hb hbase
  unfold Oper.wp execOp
  simp only [ho, resolve, invoke, builtin, Sem.run_bind, Sem.run_pure, Result.andThen_ok, List.map_toArray, List.map_cons, List.map_nil, hs, hx, hrun]
  exact h v' w' h2 h3 h4

/-- In a plain region. -/
theorem wpList_app (E : EI P t e z size bytes) {w : World} {ops : Array Oper} {rest : List Oper} {o : Oper} {a : Act} {Q : Exit → Act → World → Prop} (hgd : o.guard = none) (s x : Operand)
    (ho : o.op = .call { callee := .builtin .append, args := #[s, x], argTypes := #[t, t] })
    (base : Nat) (v : Value) (n : Nat) (xs : List Value) (hs : a.eval s = v) (hown : w.ownsRow base e size v n xs)
    (A : Option Addr) (m c : Nat) (news : List Value) (hx : a.eval x = .slice A m c) (hr : Reads w A news) (hl : news.length = m * size) (h1 : ∀ u ∈ news, u.oneCell' = true)
    (hb : (n + m) * bytes ≤ 140737488355328) (hbase : base ≤ w.heap.size)
    (h : ∀ v' w', w'.ownsRow base e size v' (n + m) (xs ++ news) → w.grownBy w' v.ownBlock → (v'.ownBlock = v.ownBlock ∨ v'.ownBlock = some w.heap.size) → wpList P ops Q rest (a.put o.dst v') w') : wpList P ops Q (o :: rest) a w :=
  wpList_plain hgd fun _ hK => wp_app E s x ho base v n xs hs hown A m c news hx hr hl h1 hb hbase fun v' w' h2 h3 h4 => hK _ _ (h v' w' h2 h3 h4)

/-- At a step of a region that draws. -/
theorem step_app (E : EI P t e z size bytes) {w : World} {ops : Array Oper} {o : Oper} {a : Act} {K : Act → World → Prop} {Q : Exit → Act → World → Prop} {F : Prop} (hgd : o.guard = none) (s x : Operand)
    (ho : o.op = .call { callee := .builtin .append, args := #[s, x], argTypes := #[t, t] })
    (base : Nat) (v : Value) (n : Nat) (xs : List Value) (hs : a.eval s = v) (hown : w.ownsRow base e size v n xs)
    (A : Option Addr) (m c : Nat) (news : List Value) (hx : a.eval x = .slice A m c) (hr : Reads w A news) (hl : news.length = m * size) (h1 : ∀ u ∈ news, u.oneCell' = true)
    (hb : (n + m) * bytes ≤ 140737488355328) (hbase : base ≤ w.heap.size)
    (h : ∀ v' w', w'.ownsRow base e size v' (n + m) (xs ++ news) → w.grownBy w' v.ownBlock → (v'.ownBlock = v.ownBlock ∨ v'.ownBlock = some w.heap.size) → K (a.put o.dst v') w') :
    if Region.wanted o (yielded ops a.tmps) = true then Oper.wp P o a w K Q else F := by
  have hw : Region.wanted o (yielded ops a.tmps) = true := by simp [Region.wanted, hgd]
  rw [if_pos hw]
  exact wp_app E s x ho base v n xs hs hown A m c news hx hr hl h1 hb hbase h

/-- What is owned reads as what it holds. -/
theorem own_reads0 {w : World} {base : Nat} {v : Value} {n : Nat} {xs : List Value} (h : w.ownsRow base e size v n xs) :
    ∃ A c, v = .slice A n c ∧ n ≤ c ∧ Reads w A xs := by
  obtain ⟨h0, h2⟩ := h
  rcases h2 with ⟨rfl, rfl⟩ | ⟨g, cap, cur, rfl, hg, hh, hnc, _, hsz, htk⟩
  · exact ⟨none, 0, rfl, Nat.le_refl _, .inl (List.eq_nil_of_length_eq_zero (by simpa using h0))⟩
  · refine ⟨_, cap, rfl, hnc, .inr ⟨g, 0, rfl, ?_, fun j u hu => ?_⟩⟩
    · rcases Nat.lt_or_ge g w.heap.size with hl | hl
      · exact hl
      · rw [Array.getElem?_eq_none hl] at hh; cases hh
    · rw [Nat.zero_add, cell_of_row w g j cur e (0, 0) hh]
      rw [← htk] at hu
      have hj : j < (cur.toList.take (n * size)).length := (List.getElem?_eq_some_iff.1 hu).1
      rw [List.getElem?_take] at hu
      split at hu
      · simpa using hu
      · cases hu

theorem own_far {w w' : World} {base : Nat} {v : Value} {n : Nat} {xs : List Value} (h : w.ownsRow base e size v n xs) (hk : ∀ g, v.ownBlock = some g → w'.heap[g]? = w.heap[g]?) : w'.ownsRow base e size v n xs := by
  obtain ⟨h1, h2⟩ := h
  refine ⟨h1, ?_⟩
  rcases h2 with h2 | ⟨g, cap, cur, rfl, hg, hh, r⟩
  · exact .inl h2
  · exact .inr ⟨g, cap, cur, rfl, hg, (hk g (by simp [Value.ownBlock])).trans hh, r⟩

theorem own_lt0 {w : World} {base : Nat} {v : Value} {n : Nat} {xs : List Value} (h : w.ownsRow base e size v n xs) (g : Nat) (hg : v.ownBlock = some g) : base ≤ g ∧ g < w.heap.size := by
  rcases h.2 with ⟨rfl, _⟩ | ⟨g', cap, cur, rfl, hb, hh, _⟩
  · simp [Value.ownBlock] at hg
  · obtain rfl : g' = g := by simpa [Value.ownBlock] using hg
    refine ⟨hb, ?_⟩
    rcases Nat.lt_or_ge g' w.heap.size with hl | hl
    · exact hl
    · rw [Array.getElem?_eq_none hl] at hh; cases hh

theorem own_below0 {w w' : World} {base : Nat} {v : Value} {n : Nat} {xs : List Value} (h : w.ownsRow base e size v n xs) (hb : Below w.heap.size w w') : w'.ownsRow base e size v n xs :=
  own_far h fun g hg => hb.block g (own_lt0 h g hg).2

theorem own_nil0 (w : World) (base : Nat) (e : TypeId) (size : Nat) : w.ownsRow base e size (.slice none 0 0) 0 [] := ⟨by simp, .inl ⟨rfl, rfl⟩⟩
end

theorem Reads.cut {w : World} {A : Option Addr} {cs : List Value} (h : Reads w A cs) (c lo hi size : Nat) (hl : lo ≤ hi) (hc : hi * size ≤ cs.length) (hcap : cs.length ≤ c * size) (hs : 0 < size) :
    Reads w (if c = lo then A else A.map (·.add (lo * size))) ((cs.take (hi * size)).drop (lo * size)) := by
  rcases h with h | ⟨b, o, rfl, hb, hcs⟩
  · subst h; exact .inl (by simp)
  · by_cases e : c = lo
    · subst e
      refine .inl ?_
      have := Nat.mul_le_mul_right size hl
      simp
      omega
    · rw [if_neg e]
      refine .inr ⟨b, o + lo * size, ?_, hb, fun j v hj => ?_⟩
      · have : (⟨b, o, none⟩ : Addr).add (lo * size) = ⟨b, o + lo * size, none⟩ := by unfold Addr.add; split <;> simp_all
        simp [this]
      · rw [Nat.add_assoc]
        refine hcs _ v ?_
        rw [List.getElem?_drop, List.getElem?_take] at hj
        split at hj
        · exact hj
        · cases hj

theorem reads_new (w : World) (cs : List Value) (t : TypeId) : Reads (w.alloc (.cells cs.toArray t)) (some ⟨w.heap.size, 0, none⟩) cs := by
  refine .inr ⟨_, 0, rfl, by simp, fun j v hj => ?_⟩
  rw [Nat.zero_add, cell_of_row (w.alloc (.cells cs.toArray t)) w.heap.size j cs.toArray t (0, 0) (heap_alloc_new w _)]
  simpa using hj
theorem Reads.drew0 {w : World} {A : Option Addr} {cs : List Value} (h : Reads w A cs) : Reads w.drew A cs := h
theorem Reads.drewN0 {w : World} {A : Option Addr} {cs : List Value} (h : Reads w A cs) (n : Nat) : Reads (w.drewN n) A cs := h
theorem blk2 {w : World} {g : Nat} {a b : Value} {T : TypeId} (h : w.heap[g]? = some (.cells #[a, b] T (0, 0))) :
    w.cell? ⟨g, 0, none⟩ = some a ∧ w.cell? ⟨g, 1, none⟩ = some b ∧ w.frozen? ⟨g, 0, none⟩ = false ∧ w.frozen? ⟨g, 1, none⟩ = false ∧ g < w.heap.size := by
  refine ⟨?_, ?_, ?_, ?_, ?_⟩
  · rw [cell_of_row w g 0 _ T (0, 0) h]; rfl
  · rw [cell_of_row w g 1 _ T (0, 0) h]; rfl
  · simp [World.frozen?, h]
  · simp [World.frozen?, h]
  · rcases Nat.lt_or_ge g w.heap.size with hl | hl
    · exact hl
    · rw [Array.getElem?_eq_none hl] at h; cases h
theorem heap_old {w : World} {g : Nat} {o o' : Obj} (h : w.heap[g]? = some o) : (w.alloc o').heap[g]? = some o := by
  have hl : g < w.heap.size := by
    rcases Nat.lt_or_ge g w.heap.size with hl | hl
    · exact hl
    · rw [Array.getElem?_eq_none hl] at h; cases h
  rw [Below.heap_alloc w o' g hl]; exact h
theorem own_set {w : World} {base e size : Nat} {v : Value} {n : Nat} {xs : List Value} (h : w.ownsRow base e size v n xs) {a : Addr} (ha : a.block < base) (u : Value) : (w.setCell a u).ownsRow base e size v n xs :=
  own_far h fun g hg => Below.heap_setCell _ _ _ _ (by have := (own_lt0 h g hg).1; omega)
theorem heap_set2 {w : World} {g : Nat} {a b : Value} {T : TypeId} (h : w.heap[g]? = some (.cells #[a, b] T (0, 0))) (x y : Value) :
    ((w.setCell ⟨g, 0, none⟩ x).setCell ⟨g, 1, none⟩ y).heap[g]? = some (.cells #[x, y] T (0, 0)) := by
  simp [World.setCell, Array.getElem?_modify, h]
theorem heap_far {w : World} {g : Nat} {o : Obj} (h : w.heap[g]? = some o) {a : Addr} (ha : g ≠ a.block) (x : Value) : (w.setCell a x).heap[g]? = some o := (Below.heap_setCell _ _ _ _ ha).trans h
theorem own_cast {w : World} {base base' e size : Nat} {v : Value} {n n' : Nat} {xs xs' : List Value} (h : w.ownsRow base e size v n xs) (hb : base' ≤ base) (hn : n = n') (hx : xs = xs') : w.ownsRow base' e size v n' xs' := by
  subst hn hx
  obtain ⟨h1, h2⟩ := h
  refine ⟨h1, ?_⟩
  rcases h2 with h2 | ⟨g, cap, cur, rfl, hg, r⟩
  · exact .inl h2
  · exact .inr ⟨g, cap, cur, rfl, Nat.le_trans hb hg, r⟩
theorem below_app {B : Nat} {w w0 w1 : World} {v : Value} (h : Below B w w0) (hg : w0.grownBy w1 v.ownBlock) (hB : B ≤ w0.heap.size) (hv : ∀ g, v.ownBlock = some g → B ≤ g) : Below B w w1 := h.grown hg hB hv

theorem Reads.grown {w w' : World} {A : Option Addr} {cs : List Value} {row : Option Nat} (h : Reads w A cs) (hg : w.grownBy w' row) (hne : ∀ a, A = some a → row ≠ some a.block) : Reads w' A cs := by
  rcases h with h | ⟨b, o, rfl, hb, hc⟩
  · exact .inl h
  · exact .inr ⟨b, o, rfl, Nat.lt_of_lt_of_le hb hg.size, fun j v hj => (World.cell?_of_block (hg.block b hb (fun e => hne _ rfl e.symm))).trans (hc j v hj)⟩
/-- Block b is a row of numbers, whole. -/
def RowI (w : World) (T : TypeId) (b : Nat) (l : List Int) : Prop := w.heap[b]? = some (.cells (icells l).toArray T (0, 0))
theorem RowI.lt {w : World} {T : TypeId} {b : Nat} {l : List Int} (h : RowI w T b l) : b < w.heap.size := by
  rcases Nat.lt_or_ge b w.heap.size with hl | hl
  · exact hl
  · unfold RowI at h; rw [Array.getElem?_eq_none hl] at h; cases h
theorem RowI.cell {w : World} {T : TypeId} {b : Nat} {l : List Int} (h : RowI w T b l) {i : Nat} {x : Int} (hx : l[i]? = some x) : w.cell? ⟨b, i, none⟩ = some (.int .i64 x) := by
  rw [cell_of_row w b i _ T (0, 0) h]
  simp [icells, hx]
theorem RowI.frozen {w : World} {T : TypeId} {b : Nat} {l : List Int} (h : RowI w T b l) (i : Nat) : w.frozen? ⟨b, i, none⟩ = false := by
  unfold RowI at h
  simp [World.frozen?, h]
theorem RowI.set {w : World} {T : TypeId} {b : Nat} {l : List Int} (h : RowI w T b l) (i : Nat) (x : Int) : RowI (w.setCell ⟨b, i, none⟩ (.int .i64 x)) T b (l.set i x) := by
  unfold RowI at *
  simp [World.setCell, Array.getElem?_modify, h, icells, List.map_set]
theorem RowI.far {w : World} {T : TypeId} {b : Nat} {l : List Int} (h : RowI w T b l) {a : Addr} (ha : b ≠ a.block) (u : Value) : RowI (w.setCell a u) T b l := (Below.heap_setCell _ _ _ _ ha).trans h
theorem RowI.old {w : World} {T : TypeId} {b : Nat} {l : List Int} (h : RowI w T b l) (o : Obj) : RowI (w.alloc o) T b l := (Below.heap_alloc w o b h.lt).trans h
theorem RowI.below {w w' : World} {T : TypeId} {b : Nat} {l : List Int} (h : RowI w T b l) {B : Nat} (hb : Below B w w') (hB : b < B) : RowI w' T b l := (hb.block b hB).trans h
theorem RowI.reads {w : World} {T : TypeId} {b : Nat} {l : List Int} (h : RowI w T b l) : Reads w (some ⟨b, 0, none⟩) (icells l) :=
  .inr ⟨b, 0, rfl, h.lt, fun j v hj => by
    rw [Nat.zero_add, cell_of_row w b j _ T (0, 0) h]
    simpa using hj⟩
theorem made_zero (n : Nat) : madeCells #[.int .i64 0] n = (icells (List.replicate n 0)).toArray := by
  apply Array.ext
  · simp [madeCells, icells]
  · intro i h1 h2
    simp [madeCells, icells, Nat.mod_one]

end Go.Proofs.Ytglhdoibglafbaa

/- Graphs as rows of edges: what is right, where an edge is, an edge among some: plain, no program in sight. -/
namespace Go.Proofs.Ytglhdoibglafbaa
set_option maxRecDepth 100000
set_option linter.unusedVariables false

def cmpE (a b c d : Int) : Int := if a < c then -1 else if c < a then 1 else if b < d then -1 else if d < b then 1 else 0
theorem cmpE_eq (a b c d : Int) : (if (if a < c then (-1 : Int) else if c < a then 1 else 0) = 0 then (if b < d then (-1 : Int) else if d < b then 1 else 0) else (if a < c then -1 else if c < a then 1 else 0)) = cmpE a b c d := by
  unfold cmpE
  by_cases h1 : a < c
  · simp [h1]
  · by_cases h2 : c < a
    · simp [h1, h2]
    · simp [h1, h2]


theorem ahead_cmp (a b c d : Int) : decide (a < c ∨ a = c ∧ b < d) = decide (cmpE a b c d < 0) := by
  unfold cmpE
  by_cases h1 : a < c
  · simp [h1]
  · by_cases h2 : c < a
    · simp [h1, h2]; omega
    · obtain rfl : a = c := by omega
      by_cases h3 : b < d
      · simp [h3]
      · by_cases h4 : d < b
        · simp [h3, h4]
        · simp [h3, h4]


/-- Is place k of a row of edges as it should be? -/
def okAt (n : Int) (es : List (Int × Int)) (k : Nat) : Bool :=
  match es[k]? with
  | none => true
  | some e => decide (0 ≤ e.1) && decide (e.1 < e.2) && decide (e.2 < n) && (k == 0 || match es[k - 1]? with | none => true | some d => decide (cmpE d.1 d.2 e.1 e.2 < 0))
def rightB (n : Int) (es : List (Int × Int)) : Bool := decide (0 ≤ n) && decide (n ≤ 4096) && decide (es.length ≤ 65536) && (List.range es.length).all fun k => okAt n es k

theorem okAt_no {n : Int} {es : List (Int × Int)} {k : Nat} {x y : Int} (h : es[k]? = some (x, y)) (hb : x < 0 ∨ y ≤ x ∨ n ≤ y) : okAt n es k = false := by
  unfold okAt
  rw [h]
  simp
  omega
theorem okAt_zero {n : Int} {es : List (Int × Int)} {x y : Int} (h : es[0]? = some (x, y)) (h1 : 0 ≤ x) (h2 : x < y) (h3 : y < n) : okAt n es 0 = true := by
  unfold okAt
  rw [h]
  simp [h1, h2, h3]
theorem okAt_succ {n : Int} {es : List (Int × Int)} {k : Nat} {x y x' y' : Int} (h : es[k + 1]? = some (x, y)) (h' : es[k]? = some (x', y')) (h1 : 0 ≤ x) (h2 : x < y) (h3 : y < n) : okAt n es (k + 1) = decide (cmpE x' y' x y < 0) := by
  unfold okAt
  rw [h]
  simp [h1, h2, h3, h']
theorem one_ok {p : Nat → Prop} (h : p 0) : ∀ j, j < 1 → p j := fun j hj => by
  obtain rfl : j = 0 := by omega
  exact h
theorem succ_ok {p : Nat → Prop} {k : Nat} (h : ∀ j, j < k → p j) (hk : p k) : ∀ j, j < k + 1 → p j := fun j hj => by
  by_cases e : j = k
  · subst e; exact hk
  · exact h j (by omega)
theorem right_yes (n : Int) (es : List (Int × Int)) (h0 : 0 ≤ n) (h1 : n ≤ 4096) (h2 : es.length ≤ 65536) (h : ∀ j, j < es.length → okAt n es j = true) : rightB n es = true := by
  unfold rightB
  have : (List.range es.length).all (fun k => okAt n es k) = true := by
    rw [List.all_eq_true]
    intro k hk
    exact h k (by simpa using hk)
  rw [this]
  simp [h0, h1, h2]
theorem right_no (n : Int) (es : List (Int × Int)) (k : Nat) (hk : k < es.length) (h : okAt n es k = false) : rightB n es = false := by
  unfold rightB
  have : (List.range es.length).all (fun k => okAt n es k) = false := by
    rw [List.all_eq_false]
    exact ⟨k, by simpa using hk, by simp [h]⟩
  rw [this]
  simp


/-- Where an edge is: the place of the first pair that it is. -/
def findE (es : List (Int × Int)) (e : Int × Int) : Int := match es.findIdx? (fun x => decide (x = e)) with | some i => i | none => -1
def indexB (n : Int) (es : List (Int × Int)) (a b : Int) : Int := if rightB n es = true then findE es (min a b, max a b) else -1
theorem findE_no (es : List (Int × Int)) (e : Int × Int) (h : ∀ j, j < es.length → es[j]? ≠ some e) : findE es e = -1 := by
  unfold findE
  rw [List.findIdx?_eq_none_iff.2 (fun x hx => by
    obtain ⟨j, hj, rfl⟩ := List.getElem_of_mem hx
    have := h j hj
    rw [List.getElem?_eq_getElem hj] at this
    simpa using this)]
theorem findE_yes (es : List (Int × Int)) (e : Int × Int) (k : Nat) (hk : es[k]? = some e) (h : ∀ j, j < k → es[j]? ≠ some e) : findE es e = k := by
  unfold findE
  obtain ⟨hkl, hke⟩ := List.getElem?_eq_some_iff.1 hk
  have : es.findIdx? (fun x => decide (x = e)) = some k := by
    rw [List.findIdx?_eq_some_iff_getElem]
    refine ⟨hkl, by simp [hke], fun j hj => ?_⟩
    have := h j hj
    have hjl : j < es.length := by omega
    rw [List.getElem?_eq_getElem hjl] at this
    simpa using this
  rw [this]


def hasB (n : Int) (es : List (Int × Int)) (a b : Int) : Bool := decide (0 ≤ indexB n es a b)

def ltE (d e : Int × Int) : Bool := decide (cmpE d.1 d.2 e.1 e.2 < 0)
/-- From place k down: the place behind the last one that does not stand behind e. -/
def putK (es : List (Int × Int)) (e : Int × Int) : Nat → Nat
  | 0 => 0
  | k + 1 => match es[k]? with
    | some d => if ltE e d = true then putK es e k else k + 1
    | none => k + 1
def putE (es : List (Int × Int)) (e : Int × Int) : List (Int × Int) := es.take (putK es e es.length) ++ e :: es.drop (putK es e es.length)
theorem putK_le (es : List (Int × Int)) (e : Int × Int) (k : Nat) : putK es e k ≤ k := by
  induction k with
  | zero => exact Nat.le_refl _
  | succ k ih =>
    unfold putK
    split
    · split
      · omega
      · omega
    · omega


def isB (n a : Int) : Bool := decide (0 ≤ a ∧ a < n)
def addErr (n : Int) (es : List (Int × Int)) (a b : Int) : Int :=
  if rightB n es = false then 3 else if isB n a = false then 4 else if isB n b = false then 4 else if a = b then 5 else if hasB n es a b = true then 6 else if 65536 ≤ es.length then 8 else 0


end Go.Proofs.Ytglhdoibglafbaa

/- Walks of the small functions of graph. -/
namespace Go.Proofs.Ytglhdoibglafbaa
open Go Go.RowKit
set_option maxRecDepth 100000
set_option linter.unusedVariables false

theorem EI_edge : EI Try.prog 23 28 (.agg #[.int .i64 0, .int .i64 0]) 2 16 := ⟨Try.underlying23, by kernel_rfl, rfl, by decide, by decide⟩
theorem EI_int : EI Try.prog 26 3 (.int .i64 0) 1 8 := ⟨Try.underlying26, by kernel_rfl, rfl, by decide, by decide⟩


theorem cmpInt (a b : Int) (w : World) :
    Calls Try.prog 97 #[.int .i64 a, .int .i64 b] w fun e w' => e = .returned (.int .i64 (if a < b then -1 else if b < a then 1 else 0)) ∧ w = w' := by
  by_cases h : a < b
  · go_enter Try.func97, Try.ntmps97
    go_wp2
    go_ret
    simp
  · by_cases h' : b < a
    · go_enter Try.func97, Try.ntmps97
      go_wp2
      go_ret
      simp
    · go_enter Try.func97, Try.ntmps97
      go_wp2
      go_ret
      simp

theorem aheadE (a b c d : Int) (w : World) :
    Calls Try.prog 69 #[.agg #[.int .i64 a, .int .i64 b], .agg #[.int .i64 c, .int .i64 d]] w fun e w' => e = .returned (.bool (decide (a < c ∨ a = c ∧ b < d))) ∧ Below w.heap.size w w' := by
  by_cases h : a < c
  · go_enter Try.func69, Try.ntmps69
    go_wp2
    go_ret
    exact ⟨by simp [h], by go_grown⟩
  · by_cases h' : a = c
    · subst h'
      go_enter Try.func69, Try.ntmps69
      go_wp2
      go_ret
      exact ⟨by simp, by go_grown⟩
    · have h2 : (a == c) = false := by simpa using h'
      go_enter Try.func69, Try.ntmps69
      go_wp2
      go_ret
      exact ⟨by simp; omega, by go_grown⟩

theorem or2 (x y : Int) (g : Nat) (w : World) (h0 : w.cell? ⟨g, 0, none⟩ = some (.int .i64 x)) (h1 : w.cell? ⟨g, 1, none⟩ = some (.int .i64 y)) :
    Calls Try.prog 96 #[.slice (some ⟨g, 0, none⟩) 2 2] w fun e w' => e = .returned (.int .i64 (if x = 0 then y else x)) ∧ w = w' := by
  by_cases hx : x = 0
  · subst hx
    by_cases hy : y = 0
    · subst hy
      go_enter Try.func96, Try.ntmps96
      go_wp2
      go_rounds 3
      go_ret
      simp
    · have hy' : (y != 0) = true := by simpa using hy
      go_enter Try.func96, Try.ntmps96
      go_wp2
      go_rounds 3
      go_ret
      simp
  · have hx' : (x != 0) = true := by simpa using hx
    go_enter Try.func96, Try.ntmps96
    go_wp2
    go_rounds 3
    go_ret
    simp

theorem compareE (a b c d : Int) (w : World) :
    Calls Try.prog 68 #[.agg #[], .agg #[.int .i64 a, .int .i64 b], .agg #[.int .i64 c, .int .i64 d]] w fun e w' => e = .returned (.int .i64 (cmpE a b c d)) ∧ Below w.heap.size w w' := by
  have H1 := cmpE_eq a b c d
  obtain ⟨p, hp⟩ : ∃ p : Int, p = (if a < c then (-1 : Int) else if c < a then 1 else 0) := ⟨_, rfl⟩
  obtain ⟨q, hq⟩ : ∃ p : Int, p = (if b < d then (-1 : Int) else if d < b then 1 else 0) := ⟨_, rfl⟩
  rw [← hp, ← hq] at H1
  obtain ⟨r, hr⟩ : ∃ r : Int, r = if p = 0 then q else p := ⟨_, rfl⟩
  have C1 := fun W => cmpInt a c W
  have C2 := fun W => cmpInt b d W
  have C3 := fun g W h0 h1 => or2 p q g W h0 h1
  rw [← hp] at C1
  rw [← hq] at C2
  rw [← hr] at C3 H1
  clear hp hq hr
  rw [← H1]
  clear H1
  go_enter Try.func68, Try.ntmps68
  go_wp2_with fail
  refine wp_tail 10 (by kernel_rfl) (by kernel_rfl) ?_
  simp only [List.take_succ_cons, List.take_zero, List.drop_succ_cons, List.drop_zero]
  repeat (first | still_step | (refine wpStill_step (fun K hK => ?_); go_simp; with_reducible refine ⟨_, flip_w (C1 _), hK _ ?_⟩; clear hK K)  | (refine wpStill_step (fun K hK => ?_); go_simp; with_reducible refine ⟨_, flip_w (C2 _), hK _ ?_⟩; clear hK K))
  refine wpStill_nil ?_
  clear C1 C2
  go_wp2_with fail
  with_reducible refine (C3 _ _ ?_ ?_).mono ?_
  · simp [go_sem]
  · simp [go_sem]
  rintro e w' ⟨rfl, rfl⟩
  clear C3
  go_wp2_with fail
  go_ret
  exact ⟨rfl, by go_grown⟩

end Go.Proofs.Ytglhdoibglafbaa

/- The walk of graph.Right. -/

namespace Go.Proofs.Ytglhdoibglafbaa
open Go Go.RowKit
set_option maxRecDepth 100000
set_option linter.unusedVariables false

set_option maxHeartbeats 2000000 in
theorem right_any (n : Int) (es : List (Int × Int)) (A : Option Addr) (c : Nat) (w : World) (hr : Reads w A (pcells es)) (hc : es.length ≤ c) (hm : es.length ≤ 4611686018427387903) :
    Calls Try.prog 31 #[.agg #[.int .i64 n, .slice A es.length c]] w fun e w' => e = .returned (.bool (rightB n es)) ∧ Below w.heap.size w w' := by
  by_cases h1 : n < 0
  · have HR : rightB n es = false := by simp [rightB]; omega
    rw [HR]; clear HR
    go_enter Try.func31, Try.ntmps31
    go_wp2
    go_ret
    exact ⟨rfl, by go_grown⟩
  by_cases h2 : 4096 < n
  · have HR : rightB n es = false := by simp [rightB]; omega
    rw [HR]; clear HR
    go_enter Try.func31, Try.ntmps31
    go_wp2
    go_ret
    exact ⟨rfl, by go_grown⟩
  by_cases h3 : 65536 < es.length
  · have HR : rightB n es = false := by simp [rightB]; omega
    rw [HR]; clear HR
    have h3' : decide ((65536 : Int) < (es.length : Int)) = true := decide_eq_true (by omega)
    go_enter Try.func31, Try.ntmps31
    go_wp2
    go_ret
    exact ⟨rfl, by go_grown⟩
  have h3' : decide ((65536 : Int) < (es.length : Int)) = false := decide_eq_false (by omega)
  go_enter Try.func31, Try.ntmps31
  go_wp2
  generalize hW : w.alloc (Obj.cells #[Value.int IntKind.i64 n, Value.slice A es.length c] 25) = W
  have hbW : Below w.heap.size w W := by rw [← hW]; go_grown
  have hr1 := hr.below hbW
  have hg0 : W.cell? ⟨w.heap.size, 0, none⟩ = some (.int .i64 n) := by rw [← hW]; simp [go_sem]
  have hg1 : W.cell? ⟨w.heap.size, 1, none⟩ = some (.slice A es.length c) := by rw [← hW]; simp [go_sem]
  have hgW : w.heap.size < W.heap.size := by rw [← hW]; simp
  clear hW hr
  go_loopw [25] (fun i wr => ∃ k : Nat, k ≤ es.length ∧ i = .int .i64 k ∧ Hid (∀ j, j < k → okAt n es j = true) ∧ Below W.heap.size W wr) (fun i _ => es.length - (intOf i).toNat)
  case atStart => exact ⟨0, Nat.zero_le _, rfl, fun j hj => by omega, Below.refl _ _⟩
  case round =>
    obtain ⟨k, hk, rfl, hok, hb⟩ := hrel
    have hg0' := (hb.cell (p := ⟨w.heap.size, 0, none⟩) hgW).trans hg0
    have hg1' := (hb.cell (p := ⟨w.heap.size, 1, none⟩) hgW).trans hg1
    have hfin : ∀ w', Below W.heap.size wr w' → Below w.heap.size w w' := fun w' h' => hbW.trans ((hb.trans h').mono hbW.size)
    have hWr : W.heap.size ≤ wr.heap.size := hb.size
    have hgr : w.heap.size < wr.heap.size := Nat.lt_of_lt_of_le hgW hb.size
    by_cases hlt : k < es.length
    · obtain ⟨⟨x, y⟩, hxy⟩ : ∃ e, es[k]? = some e := ⟨es[k], by simp [hlt]⟩
      obtain ⟨b, o, rfl, hbl, e1, e2⟩ := (hr1.below hb).pair' k _ hxy
      have HXY := Lib.hid hxy
      clear hxy
      go_wp2_with fail
      by_cases k1 : x < 0
      · (refine wp_quiet_tail 29 (by kernel_rfl) (by kernel_rfl) ?_
         simp only [List.take_succ_cons, List.take_zero, List.drop_succ_cons, List.drop_zero]
         repeat (go_big_quiet_step (fail))
         refine wpQuiet_nil ?_
         intro _ hw'
         obtain ⟨nq, hw''⟩ := hw'
         subst hw'')
        go_wp2_with fail
        go_ret
        refine ⟨?_, hfin _ (by (repeat (first | with_reducible exact Below.refl _ _ | with_reducible assumption | with_reducible refine below_drewN0 ?_ _ | with_reducible refine Below.drew ?_ | with_reducible refine Below.alloc ?_ ?_ _ | with_reducible refine Below.setCell ?_ ?_ _ | go_size | exact Below.size (by assumption))))⟩
        rw [right_no n es k hlt (okAt_no HXY.out (by omega))]; rfl
      by_cases k2 : y ≤ x
      · (refine wp_quiet_tail 29 (by kernel_rfl) (by kernel_rfl) ?_
         simp only [List.take_succ_cons, List.take_zero, List.drop_succ_cons, List.drop_zero]
         repeat (go_big_quiet_step (fail))
         refine wpQuiet_nil ?_
         intro _ hw'
         obtain ⟨nq, hw''⟩ := hw'
         subst hw'')
        go_wp2_with fail
        go_ret
        refine ⟨?_, hfin _ (by (repeat (first | with_reducible exact Below.refl _ _ | with_reducible assumption | with_reducible refine below_drewN0 ?_ _ | with_reducible refine Below.drew ?_ | with_reducible refine Below.alloc ?_ ?_ _ | with_reducible refine Below.setCell ?_ ?_ _ | go_size | exact Below.size (by assumption))))⟩
        rw [right_no n es k hlt (okAt_no HXY.out (by omega))]; rfl
      by_cases k3 : n ≤ y
      · (refine wp_quiet_tail 29 (by kernel_rfl) (by kernel_rfl) ?_
         simp only [List.take_succ_cons, List.take_zero, List.drop_succ_cons, List.drop_zero]
         repeat (go_big_quiet_step (fail))
         refine wpQuiet_nil ?_
         intro _ hw'
         obtain ⟨nq, hw''⟩ := hw'
         subst hw'')
        go_wp2_with fail
        go_ret
        refine ⟨?_, hfin _ (by (repeat (first | with_reducible exact Below.refl _ _ | with_reducible assumption | with_reducible refine below_drewN0 ?_ _ | with_reducible refine Below.drew ?_ | with_reducible refine Below.alloc ?_ ?_ _ | with_reducible refine Below.setCell ?_ ?_ _ | go_size | exact Below.size (by assumption))))⟩
        rw [right_no n es k hlt (okAt_no HXY.out (by omega))]; rfl
      by_cases k4 : k = 0
      · subst k4
        (refine wp_quiet_tail 29 (by kernel_rfl) (by kernel_rfl) ?_
         simp only [List.take_succ_cons, List.take_zero, List.drop_succ_cons, List.drop_zero]
         repeat (go_big_quiet_step (fail))
         refine wpQuiet_nil ?_
         intro _ hw'
         obtain ⟨nq, hw''⟩ := hw'
         subst hw'')
        go_wp2_with fail
        go_roundw
        case rel => exact ⟨1, by omega, rfl, Lib.hid (one_ok (p := fun j => okAt n es j = true) (okAt_zero (n := n) HXY.out (by omega) (by omega) (by omega))), hb.trans (by (repeat (first | with_reducible exact Below.refl _ _ | with_reducible assumption | with_reducible refine below_drewN0 ?_ _ | with_reducible refine Below.drew ?_ | with_reducible refine Below.alloc ?_ ?_ _ | with_reducible refine Below.setCell ?_ ?_ _ | go_size | exact Below.size (by assumption))))⟩
        case measure => simp [intOf]; omega
      obtain ⟨j, rfl⟩ : ∃ j, k = j + 1 := ⟨k - 1, by omega⟩
      obtain ⟨⟨x', y'⟩, hxy'⟩ : ∃ e, es[j]? = some e := ⟨es[j], by simp⟩
      obtain ⟨b', o', hbo, hbl', e1', e2'⟩ := (hr1.below hb).pair' j _ hxy'
      have HXY' := Lib.hid hxy'
      clear hxy'
      obtain ⟨rfl, rfl⟩ : b' = b ∧ o' = o := by simpa using hbo.symm
      clear hbo
      have HS := Lib.hid (okAt_succ (n := n) HXY.out HXY'.out (by omega) (by omega) (by omega))
      generalize hcp : cmpE x' y' x y = cp at HS
      (refine wp_quiet_tail 29 (by kernel_rfl) (by kernel_rfl) ?_
       simp only [List.take_succ_cons, List.take_zero, List.drop_succ_cons, List.drop_zero]
       repeat (go_big_quiet_step (fail))
       refine wpQuiet_nil ?_
       intro _ hw'
       obtain ⟨nq, hw''⟩ := hw'
       subst hw'')
      go_wp2_with (go_at_call 68; refine (compareE x' y' x y _).mono ?_; rw [hcp]; rintro e w1 ⟨rfl, hb1⟩)
      · have hcp0 : 0 ≤ cp := by assumption
        go_ret
        refine ⟨?_, hfin _ ?_⟩
        · rw [right_no n es (j + 1) hlt (by rw [HS.out]; simpa using hcp0)]; rfl
        · exact Below.trans (by (repeat (first | with_reducible exact Below.refl _ _ | with_reducible assumption | with_reducible refine below_drewN0 ?_ _ | with_reducible refine Below.drew ?_ | with_reducible refine Below.alloc ?_ ?_ _ | with_reducible refine Below.setCell ?_ ?_ _ | go_size | exact Below.size (by assumption)))) (hb1.mono (by simp; omega))
      · have hcp0 : cp < 0 := by assumption
        go_roundw
        case rel => exact ⟨j + 1 + 1, by omega, by go_num, Lib.hid (succ_ok (p := fun j => okAt n es j = true) hok.out (by rw [HS.out]; simpa using hcp0)), hb.trans (Below.trans (by (repeat (first | with_reducible exact Below.refl _ _ | with_reducible assumption | with_reducible refine below_drewN0 ?_ _ | with_reducible refine Below.drew ?_ | with_reducible refine Below.alloc ?_ ?_ _ | with_reducible refine Below.setCell ?_ ?_ _ | go_size | exact Below.size (by assumption)))) (hb1.mono (by simp; omega)))⟩
        case measure => simp [intOf]; omega
    · go_wp2_with fail
      go_ret
      exact ⟨by rw [right_yes n es h1 h2 (by omega) (fun j hj => hok.out j (by omega))]; rfl, hfin _ (Below.refl _ _)⟩

end Go.Proofs.Ytglhdoibglafbaa

/- Degrees: tutte.Right and what it calls. -/
namespace Go.Proofs.Ytglhdoibglafbaa
open Go Go.RowKit
set_option maxRecDepth 100000
set_option linter.unusedVariables false

def badDeg (x : Int) : Bool := decide (x < 0) || decide (4096 < x)
theorem bad_any (x : Int) (w : World) :
    Calls Try.prog 106 #[.int .i64 x] w fun e w' => e = .returned (.bool (badDeg x)) ∧ w = w' := by
  unfold badDeg
  by_cases h : x < 0
  · go_enter Try.func106, Try.ntmps106
    go_wp2
    go_ret
    simp [h]
  · go_enter Try.func106, Try.ntmps106
    go_wp2
    go_ret
    simp; omega

def idxB (p : Int → Bool) (l : List Int) : Int := match l.findIdx? p with | some i => i | none => -1
theorem idxB_no (p : Int → Bool) (l : List Int) (h : ∀ (j : Nat) x, l[j]? = some x → p x = false) : idxB p l = -1 := by
  unfold idxB
  rw [List.findIdx?_eq_none_iff.2 (fun x hx => by
    obtain ⟨j, hj, rfl⟩ := List.getElem_of_mem hx
    exact h j _ (by simp [hj]))]
theorem idxB_yes (p : Int → Bool) (l : List Int) (k : Nat) (x : Int) (hk : l[k]? = some x) (hp : p x = true) (h : ∀ (j : Nat) x, j < k → l[j]? = some x → p x = false) : idxB p l = k := by
  unfold idxB
  obtain ⟨hkl, hke⟩ := List.getElem?_eq_some_iff.1 hk
  have : l.findIdx? p = some k := by
    rw [List.findIdx?_eq_some_iff_getElem]
    refine ⟨hkl, by rw [hke]; exact hp, fun j hj => ?_⟩
    have := h j (l[j]'(by omega)) hj (by simp)
    simp [this]
  rw [this]

theorem idxf_any (l : List Int) (A : Option Addr) (c : Nat) (w : World) (hr : Reads w A (icells l)) (hc : l.length ≤ c) (hm : l.length ≤ 4611686018427387903) :
    Calls Try.prog 128 #[.slice A l.length c, .func (Fn.func 106) #[] #[]] w fun e w' => e = .returned (.int .i64 (idxB badDeg l)) ∧ w = w' := by
  go_enter Try.func128, Try.ntmps128
  go_wp2_with fail
  go_loop [8] (fun i => ∃ k : Nat, k ≤ l.length ∧ i = .int .i64 k ∧ Hid (∀ (j : Nat) x, j < k → l[j]? = some x → badDeg x = false)) (fun i => l.length - (intOf i).toNat)
  case atStart => exact ⟨0, Nat.zero_le _, rfl, fun j x hj => by omega⟩
  case round =>
    obtain ⟨k, hk, rfl, hok⟩ := hrel
    by_cases hlt : k < l.length
    · obtain ⟨x, hx⟩ : ∃ x, l[k]? = some x := ⟨l[k], by simp [hlt]⟩
      obtain ⟨b, o, rfl, hbl, e1⟩ := hr.int k x hx
      have HX := Lib.hid hx
      clear hx
      have HB := fun W => bad_any x W
      generalize hbx : badDeg x = bx at HB
      have HBX := Lib.hid hbx
      clear hbx
      cases bx with
      | true =>
        go_wp2_with (go_at_call 106; refine (HB _).mono ?_; rintro e w1 ⟨rfl, rfl⟩)
        go_ret
        exact ⟨by rw [idxB_yes badDeg l k x HX.out HBX.out hok.out]; rfl, rfl⟩
      | false =>
        go_wp2_with (go_at_call 106; refine (HB _).mono ?_; rintro e w1 ⟨rfl, rfl⟩)
        go_round
        case rel => exact ⟨k + 1, by omega, by go_num, fun j y hj hy => by
                            by_cases e : j = k
                            · subst e; rw [HX.out] at hy; injection hy with hy; subst hy; exact HBX.out
                            · exact hok.out j y (by omega) hy⟩
        case measure => simp [intOf]; omega
    · go_wp2_with fail
      go_ret
      exact ⟨by rw [idxB_no badDeg l (fun j x hx => hok.out j x (by have := (List.getElem?_eq_some_iff.1 hx).1; omega) hx)]; rfl, rfl⟩

theorem contf_any (l : List Int) (A : Option Addr) (c : Nat) (w : World) (hr : Reads w A (icells l)) (hc : l.length ≤ c) (hm : l.length ≤ 4611686018427387903) :
    Calls Try.prog 105 #[.slice A l.length c, .func (Fn.func 106) #[] #[]] w fun e w' => e = .returned (.bool (decide (0 ≤ idxB badDeg l))) ∧ w = w' := by
  have HI := fun W hR => idxf_any l A c W hR hc hm
  generalize idxB badDeg l = r at HI ⊢
  go_enter Try.func105, Try.ntmps105
  go_wp2_with (go_at_call 128; refine (HI _ hr).mono ?_; rintro e w1 ⟨rfl, rfl⟩)
  go_ret
  exact ⟨rfl, rfl⟩

/-- Why there is nothing of a graph and degrees; 0: there is. -/
def degErr (n : Int) (es : List (Int × Int)) (f : List Int) : Int :=
  if rightB n es = false then 3 else if (f.length : Int) ≠ n then 12 else if 0 ≤ idxB badDeg f then 12 else 0

set_option maxHeartbeats 1000000 in
theorem degRight (n : Int) (es : List (Int × Int)) (f : List Int) (A Af : Option Addr) (c cf : Nat) (w : World) (hr : Reads w A (pcells es)) (hc : es.length ≤ c) (hm : es.length ≤ 4611686018427387903)
    (hrf : Reads w Af (icells f)) (hcf : f.length ≤ cf) (hmf : f.length ≤ 4611686018427387903) :
    Calls Try.prog 91 #[.agg #[.int .i64 n, .slice A es.length c], .slice Af f.length cf] w fun e w' => e = .returned (.int .i64 (degErr n es f)) ∧ Below w.heap.size w w' := by
  have HR := fun W hR => right_any n es A c W hR hc hm
  have HC := fun W hR => contf_any f Af cf W hR hcf hmf
  unfold degErr
  generalize idxB badDeg f = ib at HC ⊢
  generalize rightB n es = rb at HR ⊢
  cases rb with
  | false =>
    simp only [if_true]
    go_enter Try.func91, Try.ntmps91
    go_wp2_with (go_at_call 31; refine (HR _ (hr.below ?_)).mono ?_; (repeat (first | with_reducible exact Below.refl _ _ | with_reducible assumption | with_reducible refine below_drewN0 ?_ _ | with_reducible refine Below.drew ?_ | with_reducible refine Below.alloc ?_ ?_ _ | with_reducible refine Below.setCell ?_ ?_ _ | go_size | exact Below.size (by assumption))); rintro e w1 ⟨rfl, hb1⟩)
    go_ret
    exact ⟨rfl, Below.trans (by (repeat (first | with_reducible exact Below.refl _ _ | with_reducible assumption | with_reducible refine below_drewN0 ?_ _ | with_reducible refine Below.drew ?_ | with_reducible refine Below.alloc ?_ ?_ _ | with_reducible refine Below.setCell ?_ ?_ _ | go_size | exact Below.size (by assumption)))) (hb1.mono (by simp))⟩
  | true =>
  rw [if_neg (by simp)]
  by_cases hf : (f.length : Int) = n
  · have hf' : ((f.length : Int) != n) = false := by simpa using hf
    rw [if_neg (by simpa using hf)]
    clear hf
    by_cases hi : 0 ≤ ib
    · rw [if_pos hi]
      go_enter Try.func91, Try.ntmps91
      go_wp2_with (first | (go_at_call 31; refine (HR _ (hr.below ?_)).mono ?_; (repeat (first | with_reducible exact Below.refl _ _ | with_reducible assumption | with_reducible refine below_drewN0 ?_ _ | with_reducible refine Below.drew ?_ | with_reducible refine Below.alloc ?_ ?_ _ | with_reducible refine Below.setCell ?_ ?_ _ | go_size | exact Below.size (by assumption))); rintro e w1 ⟨rfl, hb1⟩; have hbw : Below w.heap.size w w1 := Below.trans (by (repeat (first | with_reducible exact Below.refl _ _ | with_reducible assumption | with_reducible refine below_drewN0 ?_ _ | with_reducible refine Below.drew ?_ | with_reducible refine Below.alloc ?_ ?_ _ | with_reducible refine Below.setCell ?_ ?_ _ | go_size | exact Below.size (by assumption)))) (hb1.mono (by simp)); obtain ⟨a0, a1, a2, a3, a4⟩ := blk2 ((hb1.block w.heap.size (by simp)).trans (heap_alloc_new _ _))) | (go_at_call 105; refine (HC _ (hrf.below hbw)).mono ?_; rintro e w2 ⟨rfl, rfl⟩))
      go_ret
      exact ⟨rfl, hbw⟩
    · rw [if_neg hi]
      go_enter Try.func91, Try.ntmps91
      go_wp2_with (first | (go_at_call 31; refine (HR _ (hr.below ?_)).mono ?_; (repeat (first | with_reducible exact Below.refl _ _ | with_reducible assumption | with_reducible refine below_drewN0 ?_ _ | with_reducible refine Below.drew ?_ | with_reducible refine Below.alloc ?_ ?_ _ | with_reducible refine Below.setCell ?_ ?_ _ | go_size | exact Below.size (by assumption))); rintro e w1 ⟨rfl, hb1⟩; have hbw : Below w.heap.size w w1 := Below.trans (by (repeat (first | with_reducible exact Below.refl _ _ | with_reducible assumption | with_reducible refine below_drewN0 ?_ _ | with_reducible refine Below.drew ?_ | with_reducible refine Below.alloc ?_ ?_ _ | with_reducible refine Below.setCell ?_ ?_ _ | go_size | exact Below.size (by assumption)))) (hb1.mono (by simp)); obtain ⟨a0, a1, a2, a3, a4⟩ := blk2 ((hb1.block w.heap.size (by simp)).trans (heap_alloc_new _ _))) | (go_at_call 105; refine (HC _ (hrf.below hbw)).mono ?_; rintro e w2 ⟨rfl, rfl⟩))
      go_ret
      exact ⟨rfl, hbw⟩
  · have hf' : ((f.length : Int) != n) = true := by simpa using hf
    rw [if_pos (by simpa using hf)]
    clear hf
    go_enter Try.func91, Try.ntmps91
    go_wp2_with (first | (go_at_call 31; refine (HR _ (hr.below ?_)).mono ?_; (repeat (first | with_reducible exact Below.refl _ _ | with_reducible assumption | with_reducible refine below_drewN0 ?_ _ | with_reducible refine Below.drew ?_ | with_reducible refine Below.alloc ?_ ?_ _ | with_reducible refine Below.setCell ?_ ?_ _ | go_size | exact Below.size (by assumption))); rintro e w1 ⟨rfl, hb1⟩; have hbw : Below w.heap.size w w1 := Below.trans (by (repeat (first | with_reducible exact Below.refl _ _ | with_reducible assumption | with_reducible refine below_drewN0 ?_ _ | with_reducible refine Below.drew ?_ | with_reducible refine Below.alloc ?_ ?_ _ | with_reducible refine Below.setCell ?_ ?_ _ | go_size | exact Below.size (by assumption)))) (hb1.mono (by simp)); obtain ⟨a0, a1, a2, a3, a4⟩ := blk2 ((hb1.block w.heap.size (by simp)).trans (heap_alloc_new _ _))) | (go_at_call 105; refine (HC _ (hrf.below hbw)).mono ?_; rintro e w2 ⟨rfl, rfl⟩))
    go_ret
    exact ⟨rfl, hbw⟩
end Go.Proofs.Ytglhdoibglafbaa

/- A region that draws its order, by an invariant: each operation, whenever it may come up, hands it on; then it holds behind the region, whatever the order. -/
namespace Go.Proofs.Ytglhdoibglafbaa
open Go Go.RowKit
set_option maxRecDepth 100000
set_option linter.unusedVariables false

def cntF : List Bool → Nat
  | [] => 0
  | b :: l => (if b then 0 else 1) + cntF l
theorem cntF_set (l : List Bool) : ∀ (i : Nat), l[i]? = some false → cntF (l.set i true) + 1 = cntF l := by
  induction l with
  | nil => intro i h; simp at h
  | cons b l ih =>
    intro i h
    cases i with
    | zero => simp at h; subst h; simp [cntF]; omega
    | succ i =>
      simp at h
      have := ih i h
      simp [cntF]
      omega
theorem cntF_zero (l : List Bool) (h : cntF l = 0) : ∀ (i : Nat) (b : Bool), l[i]? = some b → b = true := by
  induction l with
  | nil => intro i b h; simp at h
  | cons c l ih =>
    intro i b hb
    simp [cntF] at h
    cases i with
    | zero => simp at hb; subst hb; cases c <;> simp_all
    | succ i => exact ih (by omega) i b (by simpa using hb)
theorem cntF_replicate (n : Nat) : cntF (List.replicate n false) = n := by
  induction n with
  | zero => rfl
  | succ n ih => simp [List.replicate_succ, cntF, ih]; omega

def updB (d : Nat → Bool) (i : Nat) : Nat → Bool := fun j => if j = i then true else d j
/-- Every operation waits for earlier ones alone. -/
def depsB (md : Region.Mode) (ops : Array Oper) : Bool := (List.range ops.size).all fun i => match ops[i]? with
  | none => true
  | some o => o.after.all fun e => !Region.binds md e || decide (e.on < i)

section
variable {P : Program} {md : Region.Mode} {ops : Array Oper}

theorem depsB_spec (h : depsB md ops = true) {i : Nat} {o : Oper} (ho : ops[i]? = some o) {e : Edge} (he : e ∈ o.after) (hb : Region.binds md e = true) : e.on < i := by
  have hi : i < ops.size := (Array.getElem?_eq_some_iff.1 ho).1
  have := List.all_eq_true.1 h i (List.mem_range.2 hi)
  simp only [ho] at this
  have := Array.all_eq_true_iff_forall_mem.1 this e he
  simpa [hb] using this

theorem ready_nil (hdep : depsB md ops = true) {l : Array Bool} (hs : l.size = ops.size) (h : Region.ready md ops l = []) : ∀ i, i < ops.size → l.getD i false = true := by
  intro i
  induction i using Nat.strongRecOn with
  | _ i ih =>
    intro hi
    cases hl : l.getD i false with
    | true => rfl
    | false =>
      have : i ∈ Region.ready md ops l := by
        refine mem_ready.2 ⟨?_, ops[i], by simp [hi], fun e he hb => ?_⟩
        · simp [hs, hi] at hl ⊢; exact hl
        · have := depsB_spec hdep (by simp [hi] : ops[i]? = some ops[i]) he hb
          exact ih e.on this (by omega)
      rw [h] at this
      cases this

theorem any_of_inv (I : (Nat → Bool) → Act → World → Prop) {Q : Exit → Act → World → Prop} (hdep : depsB md ops = true)
    (hstep : ∀ i o, ops[i]? = some o → ∀ d a w, d i = false → (∀ e ∈ o.after, Region.binds md e = true → d e.on = true) → I d a w →
      if Region.wanted o (yielded ops a.tmps) then o.wp P a w (fun a' w' => I (updB d i) a' w') Q else I (updB d i) (a.put o.dst undef) w)
    (hend : ∀ d a w, (∀ i, i < ops.size → d i = true) → I d a w → Q .normal a w) :
    ∀ (f : Nat) (l : Array Bool) (a : Act) (w : World), l.size = ops.size → cntF l.toList = f → I (fun i => l.getD i false) a w → wpAny P md ops Q f l a w := by
  intro f
  induction f with
  | zero =>
    intro l a w hs hc hI
    have hall : ∀ i, i < ops.size → l.getD i false = true := by
      intro i hi
      have := cntF_zero _ hc i (l[i]'(by omega)) (by simp [hs, hi])
      simp [hs, hi, this]
    refine ⟨?_, hend _ a w hall hI⟩
    cases hr : Region.ready md ops l with
    | nil => rfl
    | cons j js =>
      have hj : j ∈ Region.ready md ops l := by rw [hr]; simp
      obtain ⟨h1, o, ho, _⟩ := mem_ready.1 hj
      have hjs : j < ops.size := (Array.getElem?_eq_some_iff.1 ho).1
      have := hall j hjs
      simp [hs, hjs] at h1 this
      rw [h1] at this
      cases this
  | succ f ih =>
    intro l a w hs hc hI
    refine ⟨fun h => hend _ a w (ready_nil hdep hs h) hI, fun i hi => ?_⟩
    obtain ⟨h1, o, ho, hall⟩ := mem_ready.1 hi
    have hil : i < ops.size := (Array.getElem?_eq_some_iff.1 ho).1
    have h1' : l[i]'(by omega) = false := by simpa [hs, hil] using h1
    have hnext : ∀ a' w', I (updB (fun i => l.getD i false) i) a' w' → wpAny P md ops Q f (l.setIfInBounds i true) a' w' := by
      intro a' w' h'
      refine ih _ a' w' (by simp [hs]) ?_ ?_
      · have := cntF_set l.toList i (by simp [hs, hil, h1'])
        simp only [Array.toList_setIfInBounds]
        omega
      · have : (fun j => (l.setIfInBounds i true).getD j false) = updB (fun i => l.getD i false) i := by
          funext j
          unfold updB
          by_cases hji : j = i
          · subst hji; simp [hs, hil]
          · simp only [hji, if_false]
            exact getD_set_ne false (by omega)
        rw [this]
        exact h'
    have hst := hstep i o ho (fun i => l.getD i false) a w (by simp [hs, hil, h1']) (fun e he hb => hall e he hb) hI
    unfold wpOp
    simp only [ho]
    split
    · rename_i hw
      rw [if_pos hw] at hst
      exact .inl (Oper.wp_mono hnext hst)
    · rename_i hw
      rw [if_neg hw] at hst
      exact hnext _ _ hst

theorem wp_region_inv {id : Nat} {Q : Exit → Act → World → Prop} {a : Act} {w : World} {l : List Oper} (I : (Nat → Bool) → Act → World → Prop) (hm : P.follows .mixedOrders = true) (hdep : depsB .any l.toArray = true)
    (h0 : I (fun _ => false) a w.drew)
    (hstep : ∀ i o, l[i]? = some o → ∀ d a w, d i = false → (∀ e ∈ o.after, Region.binds .any e = true → d e.on = true) → I d a w →
      if Region.wanted o (yielded l.toArray a.tmps) then o.wp P a w (fun a' w' => I (updB d i) a' w') Q else I (updB d i) (a.put o.dst undef) w)
    (hend : ∀ d a w, (∀ i, i < l.length → d i = true) → I d a w → Q .normal a w) : (Code.region id l.toArray true).wp P Q a w := by
  refine wp_region_any hm (any_of_inv I hdep (fun i o ho => hstep i o (by simpa using ho)) (fun d a w hall => hend d a w (by simpa using hall)) _ _ _ _ (by simp) ?_ ?_)
  · have := cntF_replicate l.length
    simpa using this
  · have : (fun i => (Array.replicate l.toArray.size false).getD i false) = fun _ => false := by
      funext i
      exact getD_replicate_false _ _
    rw [this]
    exact h0
end
end Go.Proofs.Ytglhdoibglafbaa

/- Right graphs: what 'rightB' says, and that an edge put among the others leaves one. -/
namespace Go.Proofs.Ytglhdoibglafbaa
set_option maxRecDepth 100000
set_option linter.unusedVariables false

def LtE (d e : Int × Int) : Prop := d.1 < e.1 ∨ (d.1 = e.1 ∧ d.2 < e.2)
theorem cmpE_lt (a b c d : Int) : cmpE a b c d < 0 ↔ LtE (a, b) (c, d) := by
  have := ahead_cmp a b c d
  rw [decide_eq_decide] at this
  exact this.symm
theorem LtE.trans {a b c : Int × Int} (h : LtE a b) (k : LtE b c) : LtE a c := by unfold LtE at *; omega
theorem LtE.irrefl (a : Int × Int) : ¬ LtE a a := by unfold LtE; omega
theorem LtE.or {a b : Int × Int} (h : ¬ LtE a b) : a = b ∨ LtE b a := by
  unfold LtE at *
  by_cases h1 : a.1 = b.1
  · by_cases h2 : a.2 = b.2
    · exact .inl (Prod.ext h1 h2)
    · omega
  · omega
theorem ltE_iff (d e : Int × Int) : ltE d e = true ↔ LtE d e := by
  unfold ltE
  rw [decide_eq_true_iff]
  exact cmpE_lt _ _ _ _

structure RightP (n : Int) (es : List (Int × Int)) : Prop where
  n0 : 0 ≤ n
  n1 : n ≤ 4096
  len : es.length ≤ 65536
  ok : ∀ e ∈ es, 0 ≤ e.1 ∧ e.1 < e.2 ∧ e.2 < n
  inc : es.Pairwise LtE

theorem right_iff (n : Int) (es : List (Int × Int)) : rightB n es = true ↔ RightP n es := by
  constructor
  · intro h
    unfold rightB at h
    simp only [Bool.and_eq_true, decide_eq_true_eq, List.all_eq_true, List.mem_range] at h
    obtain ⟨⟨⟨h0, h1⟩, h2⟩, h3⟩ := h
    have hs : ∀ k (hk : k < es.length), (0 ≤ (es[k]).1 ∧ (es[k]).1 < (es[k]).2 ∧ (es[k]).2 < n) ∧ (0 < k → LtE (es[k - 1]'(by omega)) es[k]) := by
      intro k hk
      have := h3 k hk
      unfold okAt at this
      rw [List.getElem?_eq_getElem hk] at this
      simp only [Bool.and_eq_true, decide_eq_true_eq, Bool.or_eq_true, beq_iff_eq] at this
      refine ⟨⟨this.1.1.1, this.1.1.2, this.1.2⟩, fun hk0 => ?_⟩
      rcases this.2 with h | h
      · omega
      · rw [List.getElem?_eq_getElem (by omega : k - 1 < es.length)] at h
        simp only [decide_eq_true_eq] at h
        exact (cmpE_lt _ _ _ _).1 h
    refine ⟨h0, h1, h2, fun e he => ?_, ?_⟩
    · obtain ⟨k, hk, rfl⟩ := List.getElem_of_mem he
      exact (hs k hk).1
    · rw [List.pairwise_iff_getElem]
      have key : ∀ d i j (hi : i < es.length) (hj : j < es.length), i + 1 + d = j → LtE es[i] es[j] := by
        intro d
        induction d with
        | zero =>
          intro i j hi hj hij
          subst hij
          exact (hs (i + 1) hj).2 (by omega)
        | succ d ih =>
          intro i j hi hj hij
          have h1 := ih i (j - 1) hi (by omega) (by omega)
          exact h1.trans ((hs j hj).2 (by omega))
      intro i j hi hj hij
      exact key (j - i - 1) i j hi hj (by omega)
  · rintro ⟨h0, h1, h2, h3, h4⟩
    refine right_yes n es h0 h1 h2 fun j hj => ?_
    have hj3 := h3 _ (List.getElem_mem hj)
    unfold okAt
    rw [List.getElem?_eq_getElem hj]
    simp only [Bool.and_eq_true, decide_eq_true_eq, Bool.or_eq_true, beq_iff_eq]
    refine ⟨⟨⟨hj3.1, hj3.2.1⟩, hj3.2.2⟩, ?_⟩
    by_cases hz : j = 0
    · exact .inl hz
    · right
      rw [List.getElem?_eq_getElem (by omega : j - 1 < es.length)]
      simp only [decide_eq_true_eq]
      exact (cmpE_lt _ _ _ _).2 (List.pairwise_iff_getElem.1 h4 (j - 1) j (by omega) hj (by omega))

theorem findE_mem (es : List (Int × Int)) (e : Int × Int) : 0 ≤ findE es e ↔ e ∈ es := by
  unfold findE
  constructor
  · intro h
    cases hf : es.findIdx? (fun x => decide (x = e)) with
    | none => rw [hf] at h; simp at h
    | some k =>
      obtain ⟨hk, h1, _⟩ := List.findIdx?_eq_some_iff_getElem.1 hf
      simp at h1
      exact h1 ▸ List.getElem_mem hk
  · intro h
    cases hf : es.findIdx? (fun x => decide (x = e)) with
    | none =>
      have := List.findIdx?_eq_none_iff.1 hf e h
      simp at this
    | some k => simp
theorem hasB_iff {n : Int} {es : List (Int × Int)} (hr : rightB n es = true) (a b : Int) : hasB n es a b = true ↔ (min a b, max a b) ∈ es := by
  unfold hasB indexB
  rw [if_pos hr, decide_eq_true_iff]
  exact findE_mem _ _

theorem putK_spec (es : List (Int × Int)) (e : Int × Int) : ∀ m, m ≤ es.length → (∀ i (hi : i < es.length), putK es e m ≤ i → i < m → LtE e es[i]) ∧ (∀ i (hi : i < es.length), i + 1 = putK es e m → ¬ LtE e es[i]) := by
  intro m
  induction m with
  | zero => intro _; exact ⟨fun i hi h h' => by omega, fun i hi h => by simp [putK] at h⟩
  | succ k ih =>
    intro hk
    obtain ⟨g1, g2⟩ := ih (by omega)
    have hkl : k < es.length := by omega
    unfold putK
    rw [List.getElem?_eq_getElem hkl]
    by_cases h : ltE e es[k] = true
    · simp only [h, if_true]
      refine ⟨fun i hi h1 h2 => ?_, g2⟩
      by_cases hik : i = k
      · subst hik; exact (ltE_iff _ _).1 h
      · exact g1 i hi h1 (by omega)
    · simp only [h]
      refine ⟨fun i hi h1 h2 => ?_, fun i hi h1 => ?_⟩
      · simp at h1; omega
      · simp at h1
        subst h1
        exact fun h' => h ((ltE_iff _ _).2 h')

theorem mem_putE (es : List (Int × Int)) (e x : Int × Int) : x ∈ putE es e ↔ x = e ∨ x ∈ es := by
  unfold putE
  rw [List.mem_append, List.mem_cons]
  constructor
  · rintro (h | h | h)
    · exact .inr (List.mem_of_mem_take h)
    · exact .inl h
    · exact .inr (List.mem_of_mem_drop h)
  · rintro (h | h)
    · exact .inr (.inl h)
    · rw [← List.take_append_drop (putK es e es.length) es] at h
      rcases List.mem_append.1 h with h | h
      · exact .inl h
      · exact .inr (.inr h)
theorem putE_length (es : List (Int × Int)) (e : Int × Int) : (putE es e).length = es.length + 1 := by
  have := putK_le es e es.length
  unfold putE
  simp
  omega

theorem right_put {n : Int} {es : List (Int × Int)} (h : RightP n es) {e : Int × Int} (he : 0 ≤ e.1 ∧ e.1 < e.2 ∧ e.2 < n) (hn : e ∉ es) (hl : es.length < 65536) : RightP n (putE es e) := by
  refine ⟨h.n0, h.n1, by rw [putE_length]; omega, fun x hx => ?_, ?_⟩
  · rcases (mem_putE _ _ _).1 hx with rfl | hx
    · exact he
    · exact h.ok x hx
  · obtain ⟨g1, g2⟩ := putK_spec es e es.length (Nat.le_refl _)
    have hk := putK_le es e es.length
    have hp := h.inc
    unfold putE
    generalize putK es e es.length = k at *
    rw [← List.take_append_drop k es] at hp
    rw [List.pairwise_append] at hp ⊢
    obtain ⟨p1, p2, p3⟩ := hp
    have hlow : ∀ x ∈ es.take k, LtE x e := by
      intro x hx
      obtain ⟨i, hi, rfl⟩ := List.getElem_of_mem hx
      simp at hi
      rw [List.getElem_take]
      have hlast : LtE (es[k - 1]'(by omega)) e := by
        rcases LtE.or (g2 (k - 1) (by omega) (by omega)) with h' | h'
        · exact absurd (h' ▸ List.getElem_mem _) hn
        · exact h'
      by_cases hik : i = k - 1
      · subst hik; exact hlast
      · exact (List.pairwise_iff_getElem.1 h.inc i (k - 1) (by omega) (by omega) (by omega)).trans hlast
    have hhigh : ∀ x ∈ es.drop k, LtE e x := by
      intro x hx
      obtain ⟨i, hi, rfl⟩ := List.getElem_of_mem hx
      rw [List.getElem_drop]
      simp at hi
      exact g1 (k + i) (by omega) (by omega) (by omega)
    refine ⟨p1, ?_, ?_⟩
    · rw [List.pairwise_cons]
      exact ⟨hhigh, p2⟩
    · intro x hx y hy
      rcases List.mem_cons.1 hy with rfl | hy
      · exact hlow x hx
      · exact p3 x hx y hy

/-- Where Add answers 0, the graph with an edge more is right. -/
theorem addErr_zero {n : Int} {es : List (Int × Int)} {a b : Int} (h : addErr n es a b = 0) :
    RightP n es ∧ RightP n (putE es (min a b, max a b)) ∧ (min a b, max a b) ∉ es ∧ 0 ≤ min a b ∧ min a b < max a b ∧ max a b < n := by
  unfold addErr at h
  by_cases h1 : rightB n es = false
  · rw [if_pos h1] at h; omega
  rw [if_neg h1] at h
  by_cases h2 : isB n a = false
  · rw [if_pos h2] at h; omega
  rw [if_neg h2] at h
  by_cases h3 : isB n b = false
  · rw [if_pos h3] at h; omega
  rw [if_neg h3] at h
  by_cases h4 : a = b
  · rw [if_pos h4] at h; omega
  rw [if_neg h4] at h
  by_cases h5 : hasB n es a b = true
  · rw [if_pos h5] at h; omega
  rw [if_neg h5] at h
  by_cases h6 : 65536 ≤ es.length
  · rw [if_pos h6] at h; omega
  have hr : rightB n es = true := by simpa using h1
  have hR := (right_iff n es).1 hr
  have hm : (min a b, max a b) ∉ es := fun hm => h5 ((hasB_iff hr a b).2 hm)
  have ha : 0 ≤ a ∧ a < n := by unfold isB at h2; simpa using h2
  have hb : 0 ≤ b ∧ b < n := by unfold isB at h3; simpa using h3
  have e : 0 ≤ min a b ∧ min a b < max a b ∧ max a b < n := by omega
  exact ⟨hR, right_put hR e hm (by omega), hm, e⟩
end Go.Proofs.Ytglhdoibglafbaa
