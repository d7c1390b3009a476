/- A region that draws its order, by an invariant: each operation, whenever it may come up, hands it on; then it holds behind the region, whatever the order. -/
import Derived.Test.YtglhdoibglafbaaBQ
namespace Go.Proofs.Ytglhdoibglafbaa
open Go Go.RowKit
set_option maxRecDepth 100000
set_option linter.unusedVariables false

def cntF : List Bool → Nat
  | [] => 0
  | b :: l => (if b then 0 else 1) + cntF l
theorem cntF_set (l : List Bool) : ∀ (i : Nat), l[i]? = some false → cntF (l.set i true) + 1 = cntF l := by
  induction l with
  | nil => intro i h; simp at h
  | cons b l ih =>
    intro i h
    cases i with
    | zero => simp at h; subst h; simp [cntF]; omega
    | succ i =>
      simp at h
      have := ih i h
      simp [cntF]
      omega
theorem cntF_zero (l : List Bool) (h : cntF l = 0) : ∀ (i : Nat) (b : Bool), l[i]? = some b → b = true := by
  induction l with
  | nil => intro i b h; simp at h
  | cons c l ih =>
    intro i b hb
    simp [cntF] at h
    cases i with
    | zero => simp at hb; subst hb; cases c <;> simp_all
    | succ i => exact ih (by omega) i b (by simpa using hb)
theorem cntF_replicate (n : Nat) : cntF (List.replicate n false) = n := by
  induction n with
  | zero => rfl
  | succ n ih => simp [List.replicate_succ, cntF, ih]; omega

def updB (d : Nat → Bool) (i : Nat) : Nat → Bool := fun j => if j = i then true else d j
/-- Every operation waits for earlier ones alone. -/
def depsB (md : Region.Mode) (ops : Array Oper) : Bool := (List.range ops.size).all fun i => match ops[i]? with
  | none => true
  | some o => o.after.all fun e => !Region.binds md e || decide (e.on < i)

section
variable {P : Program} {md : Region.Mode} {ops : Array Oper}

theorem depsB_spec (h : depsB md ops = true) {i : Nat} {o : Oper} (ho : ops[i]? = some o) {e : Edge} (he : e ∈ o.after) (hb : Region.binds md e = true) : e.on < i := by
  have hi : i < ops.size := (Array.getElem?_eq_some_iff.1 ho).1
  have := List.all_eq_true.1 h i (List.mem_range.2 hi)
  simp only [ho] at this
  have := Array.all_eq_true_iff_forall_mem.1 this e he
  simpa [hb] using this

theorem ready_nil (hdep : depsB md ops = true) {l : Array Bool} (hs : l.size = ops.size) (h : Region.ready md ops l = []) : ∀ i, i < ops.size → l.getD i false = true := by
  intro i
  induction i using Nat.strongRecOn with
  | _ i ih =>
    intro hi
    cases hl : l.getD i false with
    | true => rfl
    | false =>
      have : i ∈ Region.ready md ops l := by
        refine mem_ready.2 ⟨?_, ops[i], by simp [hi], fun e he hb => ?_⟩
        · simp [hs, hi] at hl ⊢; exact hl
        · have := depsB_spec hdep (by simp [hi] : ops[i]? = some ops[i]) he hb
          exact ih e.on this (by omega)
      rw [h] at this
      cases this

theorem any_of_inv (I : (Nat → Bool) → Act → World → Prop) {Q : Exit → Act → World → Prop} (hdep : depsB md ops = true)
    (hstep : ∀ i o, ops[i]? = some o → ∀ d a w, d i = false → (∀ e ∈ o.after, Region.binds md e = true → d e.on = true) → I d a w →
      if Region.wanted o (yielded ops a.tmps) then o.wp P a w (fun a' w' => I (updB d i) a' w') Q else I (updB d i) (a.put o.dst undef) w)
    (hend : ∀ d a w, (∀ i, i < ops.size → d i = true) → I d a w → Q .normal a w) :
    ∀ (f : Nat) (l : Array Bool) (a : Act) (w : World), l.size = ops.size → cntF l.toList = f → I (fun i => l.getD i false) a w → wpAny P md ops Q f l a w := by
  intro f
  induction f with
  | zero =>
    intro l a w hs hc hI
    have hall : ∀ i, i < ops.size → l.getD i false = true := by
      intro i hi
      have := cntF_zero _ hc i (l[i]'(by omega)) (by simp [hs, hi])
      simp [hs, hi, this]
    refine ⟨?_, hend _ a w hall hI⟩
    cases hr : Region.ready md ops l with
    | nil => rfl
    | cons j js =>
      have hj : j ∈ Region.ready md ops l := by rw [hr]; simp
      obtain ⟨h1, o, ho, _⟩ := mem_ready.1 hj
      have hjs : j < ops.size := (Array.getElem?_eq_some_iff.1 ho).1
      have := hall j hjs
      simp [hs, hjs] at h1 this
      rw [h1] at this
      cases this
  | succ f ih =>
    intro l a w hs hc hI
    refine ⟨fun h => hend _ a w (ready_nil hdep hs h) hI, fun i hi => ?_⟩
    obtain ⟨h1, o, ho, hall⟩ := mem_ready.1 hi
    have hil : i < ops.size := (Array.getElem?_eq_some_iff.1 ho).1
    have h1' : l[i]'(by omega) = false := by simpa [hs, hil] using h1
    have hnext : ∀ a' w', I (updB (fun i => l.getD i false) i) a' w' → wpAny P md ops Q f (l.setIfInBounds i true) a' w' := by
      intro a' w' h'
      refine ih _ a' w' (by simp [hs]) ?_ ?_
      · have := cntF_set l.toList i (by simp [hs, hil, h1'])
        simp only [Array.toList_setIfInBounds]
        omega
      · have : (fun j => (l.setIfInBounds i true).getD j false) = updB (fun i => l.getD i false) i := by
          funext j
          unfold updB
          by_cases hji : j = i
          · subst hji; simp [hs, hil]
          · simp only [hji, if_false]
            exact getD_set_ne false (by omega)
        rw [this]
        exact h'
    have hst := hstep i o ho (fun i => l.getD i false) a w (by simp [hs, hil, h1']) (fun e he hb => hall e he hb) hI
    unfold wpOp
    simp only [ho]
    split
    · rename_i hw
      rw [if_pos hw] at hst
      exact .inl (Oper.wp_mono hnext hst)
    · rename_i hw
      rw [if_neg hw] at hst
      exact hnext _ _ hst

theorem wp_region_inv {id : Nat} {Q : Exit → Act → World → Prop} {a : Act} {w : World} {l : List Oper} (I : (Nat → Bool) → Act → World → Prop) (hm : P.follows .mixedOrders = true) (hdep : depsB .any l.toArray = true)
    (h0 : I (fun _ => false) a w.drew)
    (hstep : ∀ i o, l[i]? = some o → ∀ d a w, d i = false → (∀ e ∈ o.after, Region.binds .any e = true → d e.on = true) → I d a w →
      if Region.wanted o (yielded l.toArray a.tmps) then o.wp P a w (fun a' w' => I (updB d i) a' w') Q else I (updB d i) (a.put o.dst undef) w)
    (hend : ∀ d a w, (∀ i, i < l.length → d i = true) → I d a w → Q .normal a w) : (Code.region id l.toArray true).wp P Q a w := by
  refine wp_region_any hm (any_of_inv I hdep (fun i o ho => hstep i o (by simpa using ho)) (fun d a w hall => hend d a w (by simpa using hall)) _ _ _ _ (by simp) ?_ ?_)
  · have := cntF_replicate l.length
    simpa using this
  · have : (fun i => (Array.replicate l.toArray.size false).getD i false) = fun _ => false := by
      funext i
      exact getD_replicate_false _ _
    rw [this]
    exact h0
end
end Go.Proofs.Ytglhdoibglafbaa
