/- Walk of forest.New: the drawn region that makes the rows. -/
import Derived.Test.YtgddfmfiiodgbaaU20
import Derived.Test.YtgddfmfiiodgbaaU07
import Derived.Test.YtgddfmfiiodgbaaU18
namespace Go.Proofs.Ytgddfmfiiodgbaa
open Go Go.RowKit
set_option maxRecDepth 100000
set_option linter.unusedVariables false
set_option linter.unusedSimpArgs false

/-- The forest after so many vertices. -/
def newS (M : Nat → Option Nat) (k : Nat) : FoS where
  label := fun v => if v < k ∧ M v = none then 1 else 0
  outer := fun v => decide (v < k ∧ M v = none)
  even := fun _ => 0
  odd := fun _ => 0
  pred := fun _ => 0
  root := fun v => if v < k then (if M v = none then some v else none) else some 0
  bridge := fun _ => (0, 0)
  gone := fun _ => false
  cls := fun v => if v < k then v else 0
  base := fun v => if v < k then v else 0
  turn := 0
  wait := (List.range k).filter fun v => (M v).isNone
  looks := 0

theorem UpOk.new (n k : Nat) : UpOk n (fun v => if v < k then v else 0) (fun v => if v < k then v else 0) := by
  refine ⟨fun v => if v = 0 then 0 else 1, fun v hv => ?_⟩
  by_cases h : v < k
  · simp [h, hv]
  · have h0 : (if 0 < k then 0 else 0) = 0 := by split <;> rfl
    simp only [h, if_false, h0]
    refine ⟨by omega, trivial, by omega, trivial, fun hne => ?_, fun he => ?_⟩
    · have : v ≠ 0 := fun e => hne e.symm
      simp [this]
    · exact he

/-- What the slots of the region hold. -/
inductive NK
  | near | mate | num | row (j : Nat) | agg | box
def NHolds (w0 : World) (nv mv : Value) (n : Nat) (bl : Nat → Nat) (f : Nat) (w : World) (v : Value) : NK → Prop
  | .near => v = nv
  | .mate => v = mv
  | .num => v = .int .i64 (n : Int)
  | .row j => v = .slice (some ⟨bl j, 0, none⟩) n n ∧ w.heap[bl j]? = some (.cells (FRow (newS (fun _ => none) 0) (fun _ => 0) (fun _ => 0) n j).toArray (FTy j) (0, 0)) ∧ w0.heap.size ≤ bl j
  | .agg => v = .agg #[nv, mv, .slice (some ⟨bl 2, 0, none⟩) n n, .slice (some ⟨bl 3, 0, none⟩) n n, .slice (some ⟨bl 4, 0, none⟩) n n, .slice (some ⟨bl 5, 0, none⟩) n n, .slice (some ⟨bl 6, 0, none⟩) n n, .slice (some ⟨bl 7, 0, none⟩) n n, .slice (some ⟨bl 8, 0, none⟩) n n, .slice (some ⟨bl 9, 0, none⟩) n n, .slice (some ⟨bl 10, 0, none⟩) n n, .slice (some ⟨bl 11, 0, none⟩) n n, .slice (some ⟨bl 12, 0, none⟩) n n, .int .i64 0, .slice none 0 0, .int .i64 0]
  | .box => v = .pointer (some ⟨f, 0, none⟩)

/-- Operation, slot, what it holds. -/
def nspec : List (Nat × Nat × NK) := [(0, 10, .near), (1, 11, .mate), (2, 12, .num), (3, 13, .row 2), (4, 14, .num), (5, 15, .row 3), (6, 16, .num), (7, 17, .row 4), (8, 18, .num), (9, 19, .row 5), (10, 20, .num), (11, 21, .row 6), (12, 22, .num), (13, 23, .row 7),
  (14, 24, .num), (15, 25, .row 8), (16, 26, .num), (17, 27, .row 9), (18, 28, .num), (19, 29, .row 10), (20, 30, .num), (21, 31, .row 11), (22, 32, .num), (23, 33, .row 12), (24, 34, .agg), (25, 35, .box), (26, 6, .box)]

def fcells (nv mv : Value) (n : Nat) (bl : Nat → Nat) : List Value := [nv, mv, .slice (some ⟨bl 2, 0, none⟩) n n, .slice (some ⟨bl 3, 0, none⟩) n n, .slice (some ⟨bl 4, 0, none⟩) n n, .slice (some ⟨bl 5, 0, none⟩) n n, .slice (some ⟨bl 6, 0, none⟩) n n, .slice (some ⟨bl 7, 0, none⟩) n n, .slice (some ⟨bl 8, 0, none⟩) n n, .slice (some ⟨bl 9, 0, none⟩) n n, .slice (some ⟨bl 10, 0, none⟩) n n, .slice (some ⟨bl 11, 0, none⟩) n n, .slice (some ⟨bl 12, 0, none⟩) n n, .int .i64 0, .slice none 0 0, .int .i64 0]
structure NInv (w0 : World) (nv mv : Value) (n : Nat) (a0 : Act) (bl : Nat → Nat) (f : Nat) (d : Nat → Bool) (a : Act) (w : World) : Prop where
  size : a.tmps.size = 77
  defers : a.defers = []
  s0 : a.tmps.getD 0 undef = nv
  s1 : a.tmps.getD 1 undef = mv
  s4 : a.tmps.getD 4 undef = .pointer none
  s5 : a.tmps.getD 5 undef = .int .i64 (n : Int)
  holds : ∀ x ∈ nspec, d x.1 = true → NHolds w0 nv mv n bl f w (a.tmps.getD x.2.1 undef) x.2.2
  apart : ∀ j j', 2 ≤ j → j ≤ 12 → 2 ≤ j' → j' ≤ 12 → j ≠ j' → d (2 * j - 1) = true → d (2 * j' - 1) = true → bl j ≠ bl j'
  full : d 24 = true → ∀ j, 2 ≤ j → j ≤ 12 → d (2 * j - 1) = true
  d25 : d 25 = true → d 24 = true ∧ w.heap[f]? = some (.cells (fcells nv mv n bl).toArray 157 (0, 0)) ∧ w0.heap.size ≤ f ∧ ∀ j, 2 ≤ j → j ≤ 12 → bl j ≠ f
  d26 : d 26 = true → d 25 = true
  below : Below w0.heap.size w0 w
  rest : ∀ t, t ≠ 6 → (t < 10 ∨ 35 < t) → a.tmps.getD t undef = a0.tmps.getD t undef

section
variable {w0 : World} {nv mv : Value} {n : Nat} {a0 : Act} {bl : Nat → Nat} {f : Nat} {d : Nat → Bool} {a : Act} {w : World}

theorem nspec_one : ∀ x ∈ nspec, ∀ y ∈ nspec, x.2.1 = y.2.1 → x.1 = y.1 := by
  have h : ∀ x ∈ nspec.map (fun x => (x.1, x.2.1)), ∀ y ∈ nspec.map (fun x => (x.1, x.2.1)), x.2 = y.2 → x.1 = y.1 := by decide
  intro x hx y hy he
  exact h _ (List.mem_map_of_mem hx) _ (List.mem_map_of_mem hy) he
theorem nspec_slot : ∀ x ∈ nspec, x.2.1 = 6 ∨ (10 ≤ x.2.1 ∧ x.2.1 ≤ 35) := by
  have h : ∀ x ∈ nspec.map (fun x => x.2.1), x = 6 ∨ (10 ≤ x ∧ x ≤ 35) := by decide
  intro x hx
  exact h _ (List.mem_map_of_mem hx)
theorem put_get (a : Act) (t t' : Nat) (v : Value) (h : t < a.tmps.size) : (a.put (some t) v).tmps.getD t' undef = if t' = t then v else a.tmps.getD t' undef := by
  unfold Act.put
  by_cases e : t' = t
  · subst e; simp [h]
  · simp [e, Array.getElem?_setIfInBounds_ne (Ne.symm e)]

theorem NHolds.next {w' : World} {bl' : Nat → Nat} {f' : Nat} {v : Value} {k : NK} (h : NHolds w0 nv mv n bl f w v k) (hext : ∀ k, k < w.heap.size → w'.heap[k]? = w.heap[k]?)
    (hbl : (∀ j, k = .row j → bl' j = bl j) ∧ (k = .agg → ∀ j, 2 ≤ j → j ≤ 12 → bl' j = bl j)) (hf : k = .box → f' = f) : NHolds w0 nv mv n bl' f' w' v k := by
  cases k with
  | near => exact h
  | mate => exact h
  | num => exact h
  | row j =>
    obtain ⟨h1, h2, h3⟩ := h
    have e := hbl.1 j rfl
    refine ⟨by rw [e]; exact h1, ?_, by rw [e]; exact h3⟩
    rw [e, hext _ (heap_lt0 h2)]
    exact h2
  | agg =>
    have e := hbl.2 rfl
    show v = _
    rw [e 2 (by omega) (by omega), e 3 (by omega) (by omega), e 4 (by omega) (by omega), e 5 (by omega) (by omega), e 6 (by omega) (by omega), e 7 (by omega) (by omega), e 8 (by omega) (by omega), e 9 (by omega) (by omega), e 10 (by omega) (by omega), e 11 (by omega) (by omega), e 12 (by omega) (by omega)]
    exact h
  | box => show v = _; rw [hf rfl]; exact h

theorem fcells_congr {bl bl' : Nat → Nat} (h : ∀ j, 2 ≤ j → j ≤ 12 → bl' j = bl j) : fcells nv mv n bl' = fcells nv mv n bl := by
  unfold fcells
  rw [h 2 (by omega) (by omega), h 3 (by omega) (by omega), h 4 (by omega) (by omega), h 5 (by omega) (by omega), h 6 (by omega) (by omega), h 7 (by omega) (by omega), h 8 (by omega) (by omega), h 9 (by omega) (by omega), h 10 (by omega) (by omega), h 11 (by omega) (by omega), h 12 (by omega) (by omega)]

theorem NInv.core (h : NInv w0 nv mv n a0 bl f d a w) (x0 : Nat × Nat × NK) (hx0 : x0 ∈ nspec) (hd : d x0.1 = false) (v : Value) (w' : World) (bl' : Nat → Nat) (f' : Nat)
    (hext : ∀ k, k < w.heap.size → w'.heap[k]? = w.heap[k]?) (hb : Below w0.heap.size w0 w') (hbl : ∀ j, 2 ≤ j → j ≤ 12 → d (2 * j - 1) = true → bl' j = bl j) (hf : d 25 = true → f' = f)
    (hv : NHolds w0 nv mv n bl' f' w' v x0.2.2) (hap : ∀ j j', 2 ≤ j → j ≤ 12 → 2 ≤ j' → j' ≤ 12 → 2 * j - 1 = x0.1 → d (2 * j' - 1) = true → bl' j ≠ bl' j')
    (hfull : x0.1 = 24 → ∀ j, 2 ≤ j → j ≤ 12 → d (2 * j - 1) = true) (h25 : x0.1 = 25 → d 24 = true ∧ w'.heap[f']? = some (.cells (fcells nv mv n bl').toArray 157 (0, 0)) ∧ w0.heap.size ≤ f' ∧ ∀ j, 2 ≤ j → j ≤ 12 → bl' j ≠ f') (h26 : x0.1 = 26 → d 25 = true) :
    NInv w0 nv mv n a0 bl' f' (updB d x0.1) (a.put (some x0.2.1) v) w' := by
  have hsl := nspec_slot x0 hx0
  have hts : x0.2.1 < a.tmps.size := by rw [h.size]; omega
  have hg : ∀ t, (a.put (some x0.2.1) v).tmps.getD t undef = if t = x0.2.1 then v else a.tmps.getD t undef := fun t => put_get a _ t v hts
  have hu : ∀ i, updB d x0.1 i = true → i = x0.1 ∨ d i = true := fun i hi => by
    unfold updB at hi
    split at hi
    · exact .inl (by assumption)
    · exact .inr hi
  have hrow : ∀ j, (∃ x ∈ nspec, x.2.2 = .row j) → ∀ x ∈ nspec, x.2.2 = .row j → x.1 = 2 * j - 1 ∧ 2 ≤ j ∧ j ≤ 12 := by
    intro j _ x hx hk
    simp only [nspec, List.mem_cons, List.not_mem_nil, or_false] at hx
    rcases hx with rfl | rfl | rfl | rfl | rfl | rfl | rfl | rfl | rfl | rfl | rfl | rfl | rfl | rfl | rfl | rfl | rfl | rfl | rfl | rfl | rfl | rfl | rfl | rfl | rfl | rfl | rfl <;> first | (cases hk; done) | (injection hk with hk; subst hk; omega)
  have hagg : ∀ x ∈ nspec, x.2.2 = .agg → x.1 = 24 := by
    intro x hx hk
    simp only [nspec, List.mem_cons, List.not_mem_nil, or_false] at hx
    rcases hx with rfl | rfl | rfl | rfl | rfl | rfl | rfl | rfl | rfl | rfl | rfl | rfl | rfl | rfl | rfl | rfl | rfl | rfl | rfl | rfl | rfl | rfl | rfl | rfl | rfl | rfl | rfl <;> first | (cases hk; done) | rfl
  have hbox : ∀ x ∈ nspec, x.2.2 = .box → x.1 = 25 ∨ x.1 = 26 := by
    intro x hx hk
    simp only [nspec, List.mem_cons, List.not_mem_nil, or_false] at hx
    rcases hx with rfl | rfl | rfl | rfl | rfl | rfl | rfl | rfl | rfl | rfl | rfl | rfl | rfl | rfl | rfl | rfl | rfl | rfl | rfl | rfl | rfl | rfl | rfl | rfl | rfl | rfl | rfl <;> first | (cases hk; done) | (left; rfl) | (right; rfl)
  have hall : d 24 = true → ∀ j, 2 ≤ j → j ≤ 12 → bl' j = bl j := fun h24 j h2 h3 => hbl j h2 h3 (h.full h24 j h2 h3)
  refine ⟨by simp [Act.put, h.size], h.defers, ?_, ?_, ?_, ?_, ?_, ?_, ?_, ?_, ?_, hb, ?_⟩
  · rw [hg, if_neg (by omega)]; exact h.s0
  · rw [hg, if_neg (by omega)]; exact h.s1
  · rw [hg, if_neg (by omega)]; exact h.s4
  · rw [hg, if_neg (by omega)]; exact h.s5
  · intro x hx hdx
    by_cases hxi : x.1 = x0.1
    · have hxx : x = x0 := by
        have h1 : ∀ x ∈ nspec, ∀ y ∈ nspec, x.1 = y.1 → x = y := by
          intro x hx y hy he
          simp only [nspec, List.mem_cons, List.not_mem_nil, or_false] at hx hy
          rcases hx with rfl | rfl | rfl | rfl | rfl | rfl | rfl | rfl | rfl | rfl | rfl | rfl | rfl | rfl | rfl | rfl | rfl | rfl | rfl | rfl | rfl | rfl | rfl | rfl | rfl | rfl | rfl <;>
          rcases hy with rfl | rfl | rfl | rfl | rfl | rfl | rfl | rfl | rfl | rfl | rfl | rfl | rfl | rfl | rfl | rfl | rfl | rfl | rfl | rfl | rfl | rfl | rfl | rfl | rfl | rfl | rfl <;> first | rfl | (exfalso; revert he; decide)
        exact h1 x hx x0 hx0 hxi
      subst hxx
      rw [hg, if_pos rfl]
      exact hv
    · have hdx' : d x.1 = true := (hu _ hdx).resolve_left hxi
      rw [hg, if_neg (fun e => hxi (nspec_one x hx x0 hx0 e))]
      refine (h.holds x hx hdx').next hext ⟨fun j hk => ?_, fun hk => ?_⟩ (fun hk => ?_)
      · obtain ⟨e1, e2, e3⟩ := hrow j ⟨x, hx, hk⟩ x hx hk
        exact hbl j e2 e3 (e1 ▸ hdx')
      · exact hall ((hagg x hx hk) ▸ hdx')
      · rcases hbox x hx hk with e | e
        · exact hf (e ▸ hdx')
        · exact hf (h.d26 (e ▸ hdx'))
  · intro j j' a1 a2 a3 a4 hne h1 h2
    rcases hu _ h1 with e1 | e1
    · rcases hu _ h2 with e2 | e2
      · omega
      · exact hap j j' a1 a2 a3 a4 e1 e2
    · rcases hu _ h2 with e2 | e2
      · exact (hap j' j a3 a4 a1 a2 e2 e1).symm
      · rw [hbl j a1 a2 e1, hbl j' a3 a4 e2]
        exact h.apart j j' a1 a2 a3 a4 hne e1 e2
  · intro h24 j h2 h3
    have hd' : d (2 * j - 1) = true := by
      rcases hu _ h24 with e | e
      · exact hfull e.symm j h2 h3
      · exact h.full e j h2 h3
    unfold updB; split
    · rfl
    · exact hd'
  · intro h25'
    rcases hu _ h25' with e | e
    · obtain ⟨g1, g2, g3, g4⟩ := h25 e.symm
      refine ⟨by unfold updB; split; rfl; exact g1, g2, g3, g4⟩
    · obtain ⟨g1, g2, g3, g4⟩ := h.d25 e
      have hfe := hf e
      refine ⟨by unfold updB; split; rfl; exact g1, ?_, by rw [hfe]; exact g3, fun j h2 h3 => by rw [hall g1 j h2 h3, hfe]; exact g4 j h2 h3⟩
      rw [hfe, hext f (heap_lt0 g2), fcells_congr (hall g1)]
      exact g2
  · intro h26'
    have : d 25 = true := by
      rcases hu _ h26' with e | e
      · exact h26 e.symm
      · exact h.d26 e
    unfold updB; split
    · rfl
    · exact this
  · intro t h6 ht
    rw [hg, if_neg (by omega)]
    exact h.rest t h6 ht
end
end Go.Proofs.Ytgddfmfiiodgbaa

/- Walk of forest.New. -/

namespace Go.Proofs.Ytgddfmfiiodgbaa
open Go Go.RowKit
set_option maxRecDepth 100000
set_option linter.unusedVariables false
set_option linter.unusedSimpArgs false

section
variable {P : Program} {ops : Array Oper} {a : Act} {w : World} {Q : Exit → Act → World → Prop} {F : Prop}
theorem step_val {o : Oper} {K : Act → World → Prop} (hgd : o.guard = none) (v : Value) (w' : World) (hrun : (execOp a.eval o).run P w = .ok (.value v) w') (hK : K (a.put o.dst v) w') :
    if Region.wanted o (yielded ops a.tmps) = true then o.wp P a w K Q else F := by
  have hw : Region.wanted o (yielded ops a.tmps) = true := by simp [Region.wanted, hgd]
  rw [if_pos hw]
  unfold Oper.wp
  rw [hrun]
  exact hK
theorem run_move {dst : Option Tmp} {x : Operand} {ty : TypeId} {pos : String} {after : Array Edge} {g : Option (Nat × Bool)} {v : Value} (hx : a.eval x = v) : (execOp a.eval ⟨dst, .move x, ty, pos, after, g⟩).run P w = .ok (.value v) w := by
  subst hx; rfl
theorem run_assign {dst : Option Tmp} {x : Operand} {ty : TypeId} {pos : String} {after : Array Edge} {g : Option (Nat × Bool)} {v : Value} (hx : a.eval x = v) : (execOp a.eval ⟨dst, .assign x, ty, pos, after, g⟩).run P w = .ok (.value v) w := by
  subst hx; rfl
theorem run_makeS {dst : Option Tmp} {x y : Operand} {t ty : TypeId} {pos : String} {after : Array Edge} {g : Option (Nat × Bool)} {v vx vy : Value} {w' : World} (hx : a.eval x = vx) (hy : a.eval y = vy) (h : (Instr.makeSlice t vx vy).run P w = .ok v w') : (execOp a.eval ⟨dst, .makeSlice t x y, ty, pos, after, g⟩).run P w = .ok (.value v) w' := by
  subst hx hy; simp [execOp, h]
theorem run_boxV {dst : Option Tmp} {x : Operand} {t ty : TypeId} {pos : String} {after : Array Edge} {g : Option (Nat × Bool)} {v vx : Value} {w' : World} (hx : a.eval x = vx) (h : (Instr.box t vx).run P w = .ok v w') : (execOp a.eval ⟨dst, .box t x, ty, pos, after, g⟩).run P w = .ok (.value v) w' := by
  subst hx; simp [execOp, h]
end

theorem run_build (nA mA : Option Addr) (n nc mc : Nat) (bl : Nat → Nat) (w : World) :
    (Instr.build 157 #[(0, .slice nA n nc), (1, .slice mA n mc), (2, .slice (some ⟨bl 2, 0, none⟩) n n), (3, .slice (some ⟨bl 3, 0, none⟩) n n), (4, .slice (some ⟨bl 4, 0, none⟩) n n), (5, .slice (some ⟨bl 5, 0, none⟩) n n), (6, .slice (some ⟨bl 6, 0, none⟩) n n), (7, .slice (some ⟨bl 7, 0, none⟩) n n), (8, .slice (some ⟨bl 8, 0, none⟩) n n), (9, .slice (some ⟨bl 9, 0, none⟩) n n), (10, .slice (some ⟨bl 10, 0, none⟩) n n), (11, .slice (some ⟨bl 11, 0, none⟩) n n), (12, .slice (some ⟨bl 12, 0, none⟩) n n)]).run Try.prog w =
      .ok (.agg (fcells (.slice nA n nc) (.slice mA n mc) n bl).toArray) w := by kernel_rfl
theorem run_boxF (nA mA : Option Addr) (n nc mc : Nat) (bl : Nat → Nat) (w : World) : (Instr.box 157 (.agg (fcells (.slice nA n nc) (.slice mA n mc) n bl).toArray)).run Try.prog w = .ok (.pointer (some ⟨w.heap.size, 0, none⟩)) (w.alloc (.cells (fcells (.slice nA n nc) (.slice mA n mc) n bl).toArray 157)) := by
  kernel_rfl


theorem made_const (x : Value) (n : Nat) : madeCells #[x] n = (rowOf n fun _ => x).toArray := by
  apply Array.ext
  · simp [madeCells, rowOf]
  · intro i h1 h2
    simp [madeCells, rowOf, Nat.mod_one]

theorem mk2 (n : Nat) (hn : n ≤ 1000000) (w : World) : (Instr.makeSlice 22 (.int .i64 (n : Int)) (.int .i64 (n : Int))).run Try.prog w = .ok (.slice (some ⟨w.heap.size, 0, none⟩) n n) (w.alloc (.cells (FRow (newS (fun _ => none) 0) (fun _ => 0) (fun _ => 0) n 2).toArray (FTy 2))) := by
  have h := run_make_row' (P := Try.prog) 22 3 (Value.int .i64 0) 8 Try.underlying22 (by kernel_rfl) rfl .i64 .i64 n (by omega) (by omega) w
  rw [h, made_const]
  have e : FRow (newS (fun _ => none) 0) (fun _ => 0) (fun _ => 0) n 2 = rowOf n fun _ => Value.int .i64 0 := rowOf_congr fun i _ => by simp [newS, encO]
  rw [e]
  rfl
theorem mk3 (n : Nat) (hn : n ≤ 1000000) (w : World) : (Instr.makeSlice 134 (.int .i64 (n : Int)) (.int .i64 (n : Int))).run Try.prog w = .ok (.slice (some ⟨w.heap.size, 0, none⟩) n n) (w.alloc (.cells (FRow (newS (fun _ => none) 0) (fun _ => 0) (fun _ => 0) n 3).toArray (FTy 3))) := by
  have h := run_make_row' (P := Try.prog) 134 4 (Value.bool false) 1 Try.underlying134 (by kernel_rfl) rfl .i64 .i64 n (by omega) (by omega) w
  rw [h, made_const]
  have e : FRow (newS (fun _ => none) 0) (fun _ => 0) (fun _ => 0) n 3 = rowOf n fun _ => Value.bool false := rowOf_congr fun i _ => by simp [newS, encO]
  rw [e]
  rfl
theorem mk4 (n : Nat) (hn : n ≤ 1000000) (w : World) : (Instr.makeSlice 22 (.int .i64 (n : Int)) (.int .i64 (n : Int))).run Try.prog w = .ok (.slice (some ⟨w.heap.size, 0, none⟩) n n) (w.alloc (.cells (FRow (newS (fun _ => none) 0) (fun _ => 0) (fun _ => 0) n 4).toArray (FTy 4))) := by
  have h := run_make_row' (P := Try.prog) 22 3 (Value.int .i64 0) 8 Try.underlying22 (by kernel_rfl) rfl .i64 .i64 n (by omega) (by omega) w
  rw [h, made_const]
  have e : FRow (newS (fun _ => none) 0) (fun _ => 0) (fun _ => 0) n 4 = rowOf n fun _ => Value.int .i64 0 := rowOf_congr fun i _ => by simp [newS, encO]
  rw [e]
  rfl
theorem mk5 (n : Nat) (hn : n ≤ 1000000) (w : World) : (Instr.makeSlice 22 (.int .i64 (n : Int)) (.int .i64 (n : Int))).run Try.prog w = .ok (.slice (some ⟨w.heap.size, 0, none⟩) n n) (w.alloc (.cells (FRow (newS (fun _ => none) 0) (fun _ => 0) (fun _ => 0) n 5).toArray (FTy 5))) := by
  have h := run_make_row' (P := Try.prog) 22 3 (Value.int .i64 0) 8 Try.underlying22 (by kernel_rfl) rfl .i64 .i64 n (by omega) (by omega) w
  rw [h, made_const]
  have e : FRow (newS (fun _ => none) 0) (fun _ => 0) (fun _ => 0) n 5 = rowOf n fun _ => Value.int .i64 0 := rowOf_congr fun i _ => by simp [newS, encO]
  rw [e]
  rfl
theorem mk6 (n : Nat) (hn : n ≤ 1000000) (w : World) : (Instr.makeSlice 22 (.int .i64 (n : Int)) (.int .i64 (n : Int))).run Try.prog w = .ok (.slice (some ⟨w.heap.size, 0, none⟩) n n) (w.alloc (.cells (FRow (newS (fun _ => none) 0) (fun _ => 0) (fun _ => 0) n 6).toArray (FTy 6))) := by
  have h := run_make_row' (P := Try.prog) 22 3 (Value.int .i64 0) 8 Try.underlying22 (by kernel_rfl) rfl .i64 .i64 n (by omega) (by omega) w
  rw [h, made_const]
  have e : FRow (newS (fun _ => none) 0) (fun _ => 0) (fun _ => 0) n 6 = rowOf n fun _ => Value.int .i64 0 := rowOf_congr fun i _ => by simp [newS, encO]
  rw [e]
  rfl
theorem mk7 (n : Nat) (hn : n ≤ 1000000) (w : World) : (Instr.makeSlice 22 (.int .i64 (n : Int)) (.int .i64 (n : Int))).run Try.prog w = .ok (.slice (some ⟨w.heap.size, 0, none⟩) n n) (w.alloc (.cells (FRow (newS (fun _ => none) 0) (fun _ => 0) (fun _ => 0) n 7).toArray (FTy 7))) := by
  have h := run_make_row' (P := Try.prog) 22 3 (Value.int .i64 0) 8 Try.underlying22 (by kernel_rfl) rfl .i64 .i64 n (by omega) (by omega) w
  rw [h, made_const]
  have e : FRow (newS (fun _ => none) 0) (fun _ => 0) (fun _ => 0) n 7 = rowOf n fun _ => Value.int .i64 0 := rowOf_congr fun i _ => by simp [newS, encO]
  rw [e]
  rfl
theorem mk9 (n : Nat) (hn : n ≤ 1000000) (w : World) : (Instr.makeSlice 134 (.int .i64 (n : Int)) (.int .i64 (n : Int))).run Try.prog w = .ok (.slice (some ⟨w.heap.size, 0, none⟩) n n) (w.alloc (.cells (FRow (newS (fun _ => none) 0) (fun _ => 0) (fun _ => 0) n 9).toArray (FTy 9))) := by
  have h := run_make_row' (P := Try.prog) 134 4 (Value.bool false) 1 Try.underlying134 (by kernel_rfl) rfl .i64 .i64 n (by omega) (by omega) w
  rw [h, made_const]
  have e : FRow (newS (fun _ => none) 0) (fun _ => 0) (fun _ => 0) n 9 = rowOf n fun _ => Value.bool false := rowOf_congr fun i _ => by simp [newS, encO]
  rw [e]
  rfl
theorem mk10 (n : Nat) (hn : n ≤ 1000000) (w : World) : (Instr.makeSlice 22 (.int .i64 (n : Int)) (.int .i64 (n : Int))).run Try.prog w = .ok (.slice (some ⟨w.heap.size, 0, none⟩) n n) (w.alloc (.cells (FRow (newS (fun _ => none) 0) (fun _ => 0) (fun _ => 0) n 10).toArray (FTy 10))) := by
  have h := run_make_row' (P := Try.prog) 22 3 (Value.int .i64 0) 8 Try.underlying22 (by kernel_rfl) rfl .i64 .i64 n (by omega) (by omega) w
  rw [h, made_const]
  have e : FRow (newS (fun _ => none) 0) (fun _ => 0) (fun _ => 0) n 10 = rowOf n fun _ => Value.int .i64 0 := rowOf_congr fun i _ => by simp [newS, encO]
  rw [e]
  rfl
theorem mk11 (n : Nat) (hn : n ≤ 1000000) (w : World) : (Instr.makeSlice 22 (.int .i64 (n : Int)) (.int .i64 (n : Int))).run Try.prog w = .ok (.slice (some ⟨w.heap.size, 0, none⟩) n n) (w.alloc (.cells (FRow (newS (fun _ => none) 0) (fun _ => 0) (fun _ => 0) n 11).toArray (FTy 11))) := by
  have h := run_make_row' (P := Try.prog) 22 3 (Value.int .i64 0) 8 Try.underlying22 (by kernel_rfl) rfl .i64 .i64 n (by omega) (by omega) w
  rw [h, made_const]
  have e : FRow (newS (fun _ => none) 0) (fun _ => 0) (fun _ => 0) n 11 = rowOf n fun _ => Value.int .i64 0 := rowOf_congr fun i _ => by simp [newS, encO]
  rw [e]
  rfl
theorem mk12 (n : Nat) (hn : n ≤ 1000000) (w : World) : (Instr.makeSlice 22 (.int .i64 (n : Int)) (.int .i64 (n : Int))).run Try.prog w = .ok (.slice (some ⟨w.heap.size, 0, none⟩) n n) (w.alloc (.cells (FRow (newS (fun _ => none) 0) (fun _ => 0) (fun _ => 0) n 12).toArray (FTy 12))) := by
  have h := run_make_row' (P := Try.prog) 22 3 (Value.int .i64 0) 8 Try.underlying22 (by kernel_rfl) rfl .i64 .i64 n (by omega) (by omega) w
  rw [h, made_const]
  have e : FRow (newS (fun _ => none) 0) (fun _ => 0) (fun _ => 0) n 12 = rowOf n fun _ => Value.int .i64 0 := rowOf_congr fun i _ => by simp [newS, encO]
  rw [e]
  rfl
theorem mk8 (n : Nat) (hn : n ≤ 1000000) (w : World) : (Instr.makeSlice 155 (.int .i64 (n : Int)) (.int .i64 (n : Int))).run Try.prog w = .ok (.slice (some ⟨w.heap.size, 0, none⟩) n n) (w.alloc (.cells (FRow (newS (fun _ => none) 0) (fun _ => 0) (fun _ => 0) n 8).toArray (FTy 8))) := by
  have hinfo : (Try.prog.info? 199).map (fun i => (i.zero, i.size, i.bytes)) = some (some (.agg #[.int .i64 0, .int .i64 0]), 2, 16) := by kernel_rfl
  obtain ⟨i, hi, hz, hs, hb⟩ := info_parts hinfo
  have h := run_make (P := Try.prog) w 155 199 i (.agg #[.int .i64 0, .int .i64 0]) Try.underlying155 hi hz .i64 .i64 (n : Int) (n : Int) (by omega) (by omega) (by rw [hb]; omega) (by omega)
  rw [h, hs]
  simp only [Int.toNat_natCast]
  have e : FRow (newS (fun _ => none) 0) (fun _ => 0) (fun _ => 0) n 8 = pcells (List.replicate n (0, 0)) := by
    show pcells _ = _
    congr 1
    apply List.ext_getElem?
    intro j
    simp only [List.getElem?_map, List.getElem?_replicate]
    by_cases hj : j < n
    · simp [hj, newS]
    · simp [hj]
  rw [e, ← madeP]
  rfl

theorem eval_tmp (a : Act) (t : Nat) : a.eval (.tmp t) = a.tmps.getD t undef := rfl
end Go.Proofs.Ytgddfmfiiodgbaa
