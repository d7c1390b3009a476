/- What is added, and removed, is as it was: plain. -/
import Derived.Test.YtglhdoibglafbaaU27
import Derived.Test.YtglhdoibglafbaaU01
import Derived.Below
namespace Go.Proofs.Ytglhdoibglafbaa
open Go Go.RowKit
set_option maxRecDepth 100000
set_option linter.unusedVariables false
set_option linter.unusedSimpArgs false

theorem mk_back {n : Int} {es L : List (Int × Int)} (hP : RightP n es) (hL : (L.map nrm).Perm es) (hl : L.length ≤ 60000) : mkErr n L = 0 ∧ mkL n L = es := by
  have hb := makeK_both (n := n) L [] (right_none hP.n0 hP.n1) (by simpa using hl)
  have e0 : sortL ([] : List PE) = [] := rfl
  rw [e0] at hb
  have hk := makeK_back hP hL
  unfold mkErr mkL
  rw [if_pos ⟨hP.n0, hP.n1⟩]
  exact ⟨hb.1.trans hk.1, (hb.2 hk.1).trans hk.2⟩

theorem findE_get {es : List (Int × Int)} {e : Int × Int} {k : Nat} (h : findE es e = (k : Int)) : es[k]? = some e := by
  unfold findE at h
  cases hf : es.findIdx? (fun x => decide (x = e)) with
  | none => rw [hf] at h; simp at h
  | some i =>
    rw [hf] at h
    obtain ⟨hk, h1, _⟩ := List.findIdx?_eq_some_iff_getElem.1 hf
    have hik : i = k := by have h9 : ((i : Nat) : Int) = (k : Int) := h; omega
    subst hik
    simp at h1
    rw [List.getElem?_eq_getElem hk, h1]

theorem right_order {n : Int} {es : List (Int × Int)} (h : RightP n es) : InOrder es := by
  show es.Pairwise fun a b => ¬ LtE b a
  exact h.inc.imp fun {a b} h k => LtE.irrefl _ (LtE.trans h k)

theorem rm_back {n a b : Int} {es : List (Int × Int)} (he : addErr n es a b = 0) : rmErr n (putE es (min a b, max a b)) b a = 0 ∧ rmL n (putE es (min a b, max a b)) b a = es := by
  obtain ⟨hR, hR', hnot, h0, h1, h2⟩ := addErr_zero he
  have hB' := (right_iff _ _).2 hR'
  have hmm : (min b a, max b a) = (min a b, max a b) := Prod.ext (by simp only; omega) (by simp only; omega)
  have hix : indexB n (putE es (min a b, max a b)) b a = findE (putE es (min a b, max a b)) (min a b, max a b) := by unfold indexB; rw [if_pos hB', hmm]
  have hf : 0 ≤ findE (putE es (min a b, max a b)) (min a b, max a b) := (findE_mem _ _).2 ((mem_putE _ _ _).2 (.inl rfl))
  rcases findE_nat (putE es (min a b, max a b)) (min a b, max a b) with h | ⟨k, hk, hkl⟩
  · omega
  refine ⟨?_, ?_⟩
  · unfold rmErr
    have ia : isB n a = true := by unfold isB; rw [decide_eq_true_iff]; omega
    have ib : isB n b = true := by unfold isB; rw [decide_eq_true_iff]; omega
    rw [hB', ia, ib, hix, if_neg (c := findE _ _ < 0) (by omega)]
    simp
  · unfold rmL
    rw [hix, hk, Int.toNat_natCast]
    have hg := findE_get hk
    rw [List.getElem?_eq_getElem hkl] at hg
    have hsp : putE es (min a b, max a b) = (putE es (min a b, max a b)).take k ++ (min a b, max a b) :: (putE es (min a b, max a b)).drop (k + 1) := by
      conv => lhs; rw [← List.take_append_drop k (putE es (min a b, max a b)), List.drop_eq_getElem_cons hkl]
      simp only [Option.some.injEq] at hg
      rw [hg]
    have hp1 : (putE es (min a b, max a b)).Perm ((min a b, max a b) :: ((putE es (min a b, max a b)).take k ++ (putE es (min a b, max a b)).drop (k + 1))) := by
      conv => lhs; rw [hsp]
      exact List.perm_middle
    have hp2 := (putE_perm es (min a b, max a b)).symm.trans hp1
    refine ord_eq ?_ (right_order hR) hp2.cons_inv.symm
    have ho := right_order hR'
    rw [hsp] at ho
    exact List.Pairwise.sublist ((List.sublist_cons_self _ _).append_left _) ho

theorem filter_put (es : List (Int × Int)) (e : Int × Int) (p : Int × Int → Bool) : ((putE es e).filter p).length = (es.filter p).length + if p e = true then 1 else 0 := by
  rw [((putE_perm es e).filter p).length_eq]
  by_cases h : p e = true
  · simp [h]
  · simp [h]
theorem near_put {a b : Int} (es : List (Int × Int)) (hab : a ≠ b) : (nearL (putE es (min a b, max a b)) a).length = (nearL es a).length + 1 := by
  unfold nearL lowL highL
  simp only [List.length_append, List.length_map, filter_put]
  by_cases h : a < b
  · have e1 : min a b = a := by omega
    have e2 : max a b = b := by omega
    have e3 : ¬ b = a := by omega
    simp [e1, e2, e3]; omega
  · have e1 : min a b = b := by omega
    have e2 : max a b = a := by omega
    have e3 : ¬ b = a := by omega
    simp [e1, e2, e3]; omega
theorem degree_put {n a b : Int} {es : List (Int × Int)} (he : addErr n es a b = 0) : (nearB n (putE es (min a b, max a b)) a).length = (nearB n es a).length + 1 := by
  obtain ⟨hR, hR', hnot, h0, h1, h2⟩ := addErr_zero he
  unfold nearB
  rw [if_pos ⟨(right_iff _ _).2 hR', by omega, by omega⟩, if_pos ⟨(right_iff _ _).2 hR, by omega, by omega⟩]
  exact near_put es (by omega)
theorem has_put {n a b : Int} {es : List (Int × Int)} (he : addErr n es a b = 0) : hasB n (putE es (min a b, max a b)) b a = true := by
  obtain ⟨hR, hR', hnot, h0, h1, h2⟩ := addErr_zero he
  refine (hasB_iff ((right_iff _ _).2 hR') b a).2 ?_
  rw [show (min b a, max b a) = (min a b, max a b) from Prod.ext (by simp only; omega) (by simp only; omega)]
  exact (mem_putE _ _ _).2 (.inl rfl)

/-- Exchanged, and turned, in the row. -/
def turnA (d : Array PE) (i j : Nat) : Array PE := (Sort.swp d i j).setIfInBounds j ((Sort.swp d i j)[j]!.2, (Sort.swp d i j)[j]!.1)
theorem turnA_size (d : Array PE) (i j : Nat) : (turnA d i j).size = d.size := by simp [turnA, Sort.swp]
theorem turnA_perm (d : Array PE) {i j : Nat} (hi : i < d.size) (hj : j < d.size) : ((turnA d i j).toList.map nrm).Perm (d.toList.map nrm) := by
  have e : (Sort.swp d i j).toList = swapL d.toList i j := by
    have h1 : d.toList[i]? = some d[i]! := by rw [getElem!_pos d i hi]; simp [hi]
    have h2 : d.toList[j]? = some d[j]! := by rw [getElem!_pos d j hj]; simp [hj]
    rw [swapL_eq h1 h2]
    simp [Sort.swp, Array.toList_setIfInBounds]
  have hjs : j < (Sort.swp d i j).size := by simp [Sort.swp, hj]
  have e2 : (turnA d i j).toList = turnL d.toList i j := by
    have h3 : (swapL d.toList i j)[j]? = some (Sort.swp d i j)[j]! := by rw [← e, getElem!_pos _ j hjs]; simp [hjs]
    unfold turnA turnL
    rw [h3, Array.toList_setIfInBounds, e]
  rw [e2]
  exact turnL_perm _ _ _
end Go.Proofs.Ytglhdoibglafbaa

/- A region that draws its order, whose operations read alone and whose callees each answer one value and leave what is old: one walk serves every order. -/
namespace Go.Proofs.Ytglhdoibglafbaa
open Go Go.RowKit
set_option maxRecDepth 100000
set_option linter.unusedVariables false
set_option linter.unusedSimpArgs false

/-- The worlds that come behind one, what is old unchanged. -/
def WB (w0 : World) : Type := { W : World // Below w0.heap.size w0 W }
def WB.w {w0 : World} (x : WB w0) : World := x.1
instance {w0 : World} : Nonempty (WB w0) := ⟨⟨w0, Below.refl _ _⟩⟩
theorem WB.b {w0 : World} (x : WB w0) : Below w0.heap.size w0 x.w := x.2

theorem wp_region_below {P : Program} {id : Nat} {Q : Exit → Act → World → Prop} {a : Act} {w : World} {l : List Oper} (w0 : World) (hm : P.follows .mixedOrders = true) (hB : Region.lexB .any l.toArray = true) (hw : Below w0.heap.size w0 w)
    (h : wpQuiet P l.toArray (fun w' => ∃ x : WB w0, w' = x.w) (fun a' => ∀ w', (∃ x : WB w0, w' = x.w) → Q .normal a' w') l a) : (Code.region id l.toArray true).wp P Q a w :=
  wp_region_quiet hm hB ⟨⟨_, hw.drew⟩, rfl⟩ h

theorem Calls.wb_of {P : Program} {f : FuncId} {args : Array Value} {v : Value} {w0 : World} {x : WB w0} (h : ∀ W, Below w0.heap.size w0 W → Calls P f args W fun e w' => e = .returned v ∧ Below W.heap.size W w') :
    Calls P f args x.w fun e w'' => e = .returned v ∧ ∃ y : WB w0, w'' = y.w :=
  (h x.w x.b).mono fun _ _ ⟨he, hb⟩ => ⟨he, ⟨_, x.b.trans (hb.mono x.b.size)⟩, rfl⟩
theorem Calls.wb_same {P : Program} {f : FuncId} {args : Array Value} {v : Value} {w0 : World} {x : WB w0} (h : ∀ W, Below w0.heap.size w0 W → Calls P f args W fun e w' => e = .returned v ∧ W = w') :
    Calls P f args x.w fun e w'' => e = .returned v ∧ ∃ y : WB w0, w'' = y.w :=
  (h x.w x.b).mono fun _ _ ⟨he, hb⟩ => ⟨he, x, hb.symm⟩
end Go.Proofs.Ytglhdoibglafbaa

/- A region that draws its order, by an invariant: each operation, whenever it may come up, hands it on; then it holds behind the region, whatever the order. -/
namespace Go.Proofs.Ytglhdoibglafbaa
open Go Go.RowKit
set_option maxRecDepth 100000
set_option linter.unusedVariables false
set_option linter.unusedSimpArgs false

def cntF : List Bool → Nat
  | [] => 0
  | b :: l => (if b then 0 else 1) + cntF l
theorem cntF_set (l : List Bool) : ∀ (i : Nat), l[i]? = some false → cntF (l.set i true) + 1 = cntF l := by
  induction l with
  | nil => intro i h; simp at h
  | cons b l ih =>
    intro i h
    cases i with
    | zero => simp at h; subst h; simp [cntF]; omega
    | succ i =>
      simp at h
      have := ih i h
      simp [cntF]
      omega
theorem cntF_zero (l : List Bool) (h : cntF l = 0) : ∀ (i : Nat) (b : Bool), l[i]? = some b → b = true := by
  induction l with
  | nil => intro i b h; simp at h
  | cons c l ih =>
    intro i b hb
    simp [cntF] at h
    cases i with
    | zero => simp at hb; subst hb; cases c <;> simp_all
    | succ i => exact ih (by omega) i b (by simpa using hb)
theorem cntF_replicate (n : Nat) : cntF (List.replicate n false) = n := by
  induction n with
  | zero => rfl
  | succ n ih => simp [List.replicate_succ, cntF, ih]; omega

def updB (d : Nat → Bool) (i : Nat) : Nat → Bool := fun j => if j = i then true else d j
/-- Every operation waits for earlier ones alone. -/
def depsB (md : Region.Mode) (ops : Array Oper) : Bool := (List.range ops.size).all fun i => match ops[i]? with
  | none => true
  | some o => o.after.all fun e => !Region.binds md e || decide (e.on < i)

section
variable {P : Program} {md : Region.Mode} {ops : Array Oper}

theorem depsB_spec (h : depsB md ops = true) {i : Nat} {o : Oper} (ho : ops[i]? = some o) {e : Edge} (he : e ∈ o.after) (hb : Region.binds md e = true) : e.on < i := by
  have hi : i < ops.size := (Array.getElem?_eq_some_iff.1 ho).1
  have := List.all_eq_true.1 h i (List.mem_range.2 hi)
  simp only [ho] at this
  have := Array.all_eq_true_iff_forall_mem.1 this e he
  simpa [hb] using this

theorem ready_nil (hdep : depsB md ops = true) {l : Array Bool} (hs : l.size = ops.size) (h : Region.ready md ops l = []) : ∀ i, i < ops.size → l.getD i false = true := by
  intro i
  induction i using Nat.strongRecOn with
  | _ i ih =>
    intro hi
    cases hl : l.getD i false with
    | true => rfl
    | false =>
      have : i ∈ Region.ready md ops l := by
        refine mem_ready.2 ⟨?_, ops[i], by simp [hi], fun e he hb => ?_⟩
        · simp [hs, hi] at hl ⊢; exact hl
        · have := depsB_spec hdep (by simp [hi] : ops[i]? = some ops[i]) he hb
          exact ih e.on this (by omega)
      rw [h] at this
      cases this

theorem any_of_inv (I : (Nat → Bool) → Act → World → Prop) {Q : Exit → Act → World → Prop} (hdep : depsB md ops = true)
    (hstep : ∀ i o, ops[i]? = some o → ∀ d a w, d i = false → (∀ e ∈ o.after, Region.binds md e = true → d e.on = true) → I d a w →
      if Region.wanted o (yielded ops a.tmps) then o.wp P a w (fun a' w' => I (updB d i) a' w') Q else I (updB d i) (a.put o.dst undef) w)
    (hend : ∀ d a w, (∀ i, i < ops.size → d i = true) → I d a w → Q .normal a w) :
    ∀ (f : Nat) (l : Array Bool) (a : Act) (w : World), l.size = ops.size → cntF l.toList = f → I (fun i => l.getD i false) a w → wpAny P md ops Q f l a w := by
  intro f
  induction f with
  | zero =>
    intro l a w hs hc hI
    have hall : ∀ i, i < ops.size → l.getD i false = true := by
      intro i hi
      have := cntF_zero _ hc i (l[i]'(by omega)) (by simp [hs, hi])
      simp [hs, hi, this]
    refine ⟨?_, hend _ a w hall hI⟩
    cases hr : Region.ready md ops l with
    | nil => rfl
    | cons j js =>
      have hj : j ∈ Region.ready md ops l := by rw [hr]; simp
      obtain ⟨h1, o, ho, _⟩ := mem_ready.1 hj
      have hjs : j < ops.size := (Array.getElem?_eq_some_iff.1 ho).1
      have := hall j hjs
      simp [hs, hjs] at h1 this
      rw [h1] at this
      cases this
  | succ f ih =>
    intro l a w hs hc hI
    refine ⟨fun h => hend _ a w (ready_nil hdep hs h) hI, fun i hi => ?_⟩
    obtain ⟨h1, o, ho, hall⟩ := mem_ready.1 hi
    have hil : i < ops.size := (Array.getElem?_eq_some_iff.1 ho).1
    have h1' : l[i]'(by omega) = false := by simpa [hs, hil] using h1
    have hnext : ∀ a' w', I (updB (fun i => l.getD i false) i) a' w' → wpAny P md ops Q f (l.setIfInBounds i true) a' w' := by
      intro a' w' h'
      refine ih _ a' w' (by simp [hs]) ?_ ?_
      · have := cntF_set l.toList i (by simp [hs, hil, h1'])
        simp only [Array.toList_setIfInBounds]
        omega
      · have : (fun j => (l.setIfInBounds i true).getD j false) = updB (fun i => l.getD i false) i := by
          funext j
          unfold updB
          by_cases hji : j = i
          · subst hji; simp [hs, hil]
          · simp only [hji, if_false]
            exact getD_set_ne false (by omega)
        rw [this]
        exact h'
    have hst := hstep i o ho (fun i => l.getD i false) a w (by simp [hs, hil, h1']) (fun e he hb => hall e he hb) hI
    unfold wpOp
    simp only [ho]
    split
    · rename_i hw
      rw [if_pos hw] at hst
      exact .inl (Oper.wp_mono hnext hst)
    · rename_i hw
      rw [if_neg hw] at hst
      exact hnext _ _ hst

theorem wp_region_inv {id : Nat} {Q : Exit → Act → World → Prop} {a : Act} {w : World} {l : List Oper} (I : (Nat → Bool) → Act → World → Prop) (hm : P.follows .mixedOrders = true) (hdep : depsB .any l.toArray = true)
    (h0 : I (fun _ => false) a w.drew)
    (hstep : ∀ i o, l[i]? = some o → ∀ d a w, d i = false → (∀ e ∈ o.after, Region.binds .any e = true → d e.on = true) → I d a w →
      if Region.wanted o (yielded l.toArray a.tmps) then o.wp P a w (fun a' w' => I (updB d i) a' w') Q else I (updB d i) (a.put o.dst undef) w)
    (hend : ∀ d a w, (∀ i, i < l.length → d i = true) → I d a w → Q .normal a w) : (Code.region id l.toArray true).wp P Q a w := by
  refine wp_region_any hm (any_of_inv I hdep (fun i o ho => hstep i o (by simpa using ho)) (fun d a w hall => hend d a w (by simpa using hall)) _ _ _ _ (by simp) ?_ ?_)
  · have := cntF_replicate l.length
    simpa using this
  · have : (fun i => (Array.replicate l.toArray.size false).getD i false) = fun _ => false := by
      funext i
      exact getD_replicate_false _ _
    rw [this]
    exact h0
end
end Go.Proofs.Ytglhdoibglafbaa
