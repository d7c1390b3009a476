/- Walk of the reference's Misses: is there a matching that leaves one vertex alone without a mate? -/
import Derived.Test.YtgddfmfiiodgbaaU36
import Derived.Test.YtgddfmfiiodgbaaU45
import Derived.Test.YtgddfmfiiodgbaaU33
import Derived.Test.YtgddfmfiiodgbaaU35
import Derived.Test.YtgddfmfiiodgbaaU29
import Derived.Test.YtgddfmfiiodgbaaU37
import Derived.Test.YtgddfmfiiodgbaaU17
import Derived.Test.YtgddfmfiiodgbaaU47
namespace Go.Proofs.Ytgddfmfiiodgbaa
open Go Go.RowKit
set_option maxRecDepth 100000
set_option linter.unusedVariables false
set_option linter.unusedSimpArgs false

theorem lacks_mx {n : Nat} {E : Nat → Nat → Prop} (hg : IsGr n E) {v k : Nat} (hv : v < n) (h : IsMx n E (fun u => !decide (u = v)) k) : 2 * k = n - 1 ↔ Lacks n E v := by
  rw [lacks_iff hv]
  obtain ⟨⟨M, h1, h2, h3⟩, h4⟩ := h
  have hMv : M v = none := by
    cases e : M v with
    | none => rfl
    | some x => have := h2 v x e; simp at this
  have hsz := size_free hg h1
  have hin : v ∈ freeL n M := mem_freeL.2 ⟨hv, hMv⟩
  constructor
  · intro hk
    refine ⟨M, h1, ?_⟩
    have hl : (freeL n M).length = 1 := by omega
    obtain ⟨x, hx⟩ := List.length_eq_one_iff.1 hl
    rw [hx] at hin ⊢
    simp at hin
    rw [hin]
  · rintro ⟨M', g1, g2⟩
    have hM'v : M' v = none := (mem_freeL.1 (show v ∈ freeL n M' by rw [g2]; simp)).2
    have hw : Within (fun u => !decide (u = v)) M' := fun x y hxy => by
      by_cases e : x = v
      · subst e; rw [hM'v] at hxy; cases hxy
      · simp [e]
    have h5 := h4 M' g1 hw
    have h6 := size_free hg g1
    rw [g2] at h6
    have h7 : 0 < (freeL n M).length := List.length_pos_of_mem hin
    simp at h6
    omega

open Classical in
/-- Is there a matching that leaves one alone? -/
noncomputable def lacksB (n : Nat) (es : List (Int × Int)) (v : Nat) : Bool := decide (Lacks n (adjE es) v)

open Classical in
theorem lacksB_iff {n v : Nat} {es : List (Int × Int)} : lacksB n es v = true ↔ Lacks n (adjE es) v := by
  unfold lacksB
  exact decide_eq_true_iff

set_option maxHeartbeats 1000000 in
theorem misses_any {n v : Nat} {es : List (Int × Int)} (hP : RightP n es) (hn : n ≤ 20) (hv : v < n) (A : Option Addr) (c : Nat) (w : World) (hr : Reads w A (pcells es)) (hc : es.length ≤ c) :
    Calls Try.prog 57 #[.agg #[.int .i64 (n : Int), .slice A es.length c], .int .i64 (v : Int)] w fun e w' => e = .returned (.bool (lacksB n es v)) ∧ Below w.heap.size w w' := by
  have HT := table_any hP hn A c
  have HR := Lib.hid hr
  have h2n : 2 ^ n ≤ 2 ^ 20 := Nat.pow_le_pow_right (by omega) hn
  have h1n : 1 ≤ 2 ^ n := Nat.two_pow_pos n
  have hbt : ∀ u, u < n → (2 ^ n - 1).testBit u = true := fun u hu => by rw [Nat.testBit_two_pow_sub_one]; simp [hu]
  have HG := Lib.hid (right_gr hP)
  clear hr hP
  generalize 2 ^ n = N at HT h2n h1n hbt
  have e1 : IntKind.i64.wrap ((N : Int) - 1) = ((N - 1 : Nat) : Int) := by rw [IntKind.wrap_i64]; omega
  have e2 : wrap64 (2 ^ v) = ((2 ^ v : Nat) : Int) := wrap_pow (by omega)
  have h62 : (2 : Nat) ^ v < 2 ^ 62 := Nat.pow_lt_pow_right (by omega) (by omega)
  obtain ⟨z, e4, hz1, hz2⟩ := bits_andNot (N - 1) (2 ^ v) (by omega) h62
  have e7 : bits BinOp.andNot IntKind.i64 ((N - 1 : Nat) : Int) ((2 : Int) ^ v) = (z : Int) := by rw [pow_cast]; exact e4
  have e8 : IntKind.i64.wrap ((2 : Int) ^ v) = (2 : Int) ^ v := by rw [pow_cast]; exact bit_wrap _ h62
  have e9 : wrap64 ((2 : Int) ^ v) = (2 : Int) ^ v := by rw [e2, pow_cast]
  have eu : IntKind.u64.wrap (v : Int) = (v : Int) := by rw [IntKind.wrap_u64]; omega
  have hzN : z < N := by omega
  have z1 : (0 : Int) ≤ (z : Int) := by omega
  have z2 : (z : Int) < (N : Int) := by omega
  have HZ : Hid (∀ u, u < n → z.testBit u = !decide (u = v)) := fun u hu => by
    rw [hz2, hbt u hu, Nat.testBit_two_pow]
    by_cases e : v = u
    · subst e; simp
    · have : ¬ u = v := fun h => e h.symm
      simp [e, this]
  clear e2 e4 hz2 hbt hz1
  go_enter Try.func57, Try.ntmps57
  go_upto_region 1 with fail
  (have hX1 := Box2.new (Below.refl w.heap.size w) (Value.int IntKind.i64 (n : Int)) (Value.slice A es.length c) 25
   generalize w.alloc (Obj.cells #[Value.int IntKind.i64 (n : Int), Value.slice A es.length c] 25) = w1 at hX1 ⊢
   have c0 := hX1.c0
   have c1 := hX1.c1)
  have HT1 := HT w1 (HR.out.below hX1.below) hc
  go_upto_region 2 with (go_at_call 96; (refine HT1.mono ?_; rintro e w2 ⟨B, t, rfl, hB, hrow, hMx, hb2⟩))
  have hmx := (hMx z hzN).congr (q := fun u => !decide (u = v)) fun u hu => HZ.out u hu
  have hle := hmx.le HG.out
  have hL := lacks_mx HG.out hv hmx
  have hX2 := hX1.go hb2
  have ct := hrow.cell (natL_get (f := t) hzN)
  have c0' := hX2.c0
  have c1' := hX2.c1
  obtain ⟨k, hk⟩ : ∃ k, k = t z := ⟨_, rfl⟩
  rw [← hk] at ct hle hL
  have e5 : IntKind.i64.wrap (2 * (k : Int)) = 2 * (k : Int) := by rw [IntKind.wrap_i64]; omega
  have e6 : IntKind.i64.wrap ((n : Int) - 1) = (n : Int) - 1 := by rw [IntKind.wrap_i64]; omega
  have hbq : (2 * (k : Int) == (n : Int) - 1) = lacksB n es v := by
    rw [Bool.eq_iff_iff, beq_iff_eq, lacksB_iff, ← hL]
    omega
  have HBQ := Lib.hid hbq
  have HX2 := Lib.hid hX2
  clear hk hmx hL hX2 hX1 hMx hrow HT1 HT c0 c1 hbq hb2
  go_wp2_with fail
  go_quiet (fail)
  go_wp2_with fail
  rw [HBQ.out]
  go_ret
  exact ⟨rfl, below_drewN0 HX2.out.below _⟩
end Go.Proofs.Ytgddfmfiiodgbaa

/- The reference's pieces by labels (no program in sight): labels that only fall, edges whose ends agree; a critical graph has one piece. -/
namespace Go.Proofs.Ytgddfmfiiodgbaa
set_option maxRecDepth 100000
set_option linter.unusedVariables false
set_option linter.unusedSimpArgs false

/-- The sum of labels. -/
def sumF : Nat → (Nat → Nat) → Nat
  | 0, _ => 0
  | n + 1, f => sumF n f + f n
theorem sumF_le {n : Nat} {f g : Nat → Nat} (h : ∀ v, f v ≤ g v) : sumF n f ≤ sumF n g := by
  induction n with
  | zero => exact Nat.le_refl _
  | succ n ih => have := h n; simp only [sumF]; omega
theorem sumF_lt {n : Nat} {f g : Nat → Nat} (h : ∀ v, f v ≤ g v) {x : Nat} (hx : x < n) (hl : f x < g x) : sumF n f < sumF n g := by
  induction n with
  | zero => omega
  | succ n ih =>
    simp only [sumF]
    by_cases e : x = n
    · subst e; have := sumF_le (n := x) h; omega
    · have := ih (by omega); have := h n; omega

/-- How many are their own label. -/
def cntLb (f : Nat → Nat) : Nat → Nat
  | 0 => 0
  | n + 1 => cntLb f n + (if f n = n then 1 else 0)
theorem cntLb_yes {f : Nat → Nat} {v : Nat} (h : f v = v) : cntLb f (v + 1) = cntLb f v + 1 := by simp [cntLb, h]
theorem cntLb_no {f : Nat → Nat} {v : Nat} (h : f v ≠ v) : cntLb f (v + 1) = cntLb f v := by simp [cntLb, h]
theorem cntLb_le (f : Nat → Nat) (n : Nat) : cntLb f n ≤ n := by
  induction n with
  | zero => exact Nat.le_refl _
  | succ n ih => simp only [cntLb]; split <;> omega
theorem cntLb_pos {f : Nat → Nat} {n : Nat} (hf : ∀ v, f v ≤ v) (hn : 0 < n) : 1 ≤ cntLb f n := by
  induction n with
  | zero => omega
  | succ n ih =>
    by_cases h0 : n = 0
    · subst h0
      have h1 : f 0 = 0 := Nat.le_zero.1 (hf 0)
      simp [cntLb, h1]
    · have := ih (by omega); simp only [cntLb]; omega
theorem cntLb_two {f : Nat → Nat} {n : Nat} (h : ∀ x y, x < n → y < n → f x = x → f y = y → x = y) : cntLb f n ≤ 1 := by
  induction n with
  | zero => simp [cntLb]
  | succ n ih =>
    have h1 := ih fun x y hx hy => h x y (by omega) (by omega)
    simp only [cntLb]
    by_cases e : f n = n
    · have h0 : cntLb f n = 0 := by
        clear ih h1
        have h2 : ∀ x, x < n → f x ≠ x := fun x hx hfx => by have := h x n (by omega) (by omega) hfx e; omega
        clear h e
        induction n with
        | zero => rfl
        | succ n ih =>
          simp only [cntLb]
          rw [ih fun x hx => h2 x (by omega), if_neg (h2 n (by omega))]
      rw [if_pos e, h0]
      omega
    · rw [if_neg e]; omega

/-- A critical graph is in one piece. -/
theorem crit_one {n : Nat} {E : Nat → Nat → Prop} {f : Nat → Nat} (hg : IsGr n E) (hc : CritG n E) (hcl : ∀ u v, E u v → f u = f v) {x y : Nat} (hx : x < n) (hy : y < n) (hfx : f x = x) (hfy : f y = y) : x = y := by
  refine Classical.byContradiction fun hne => ?_
  -- what a matching does within x's piece
  have hpart : ∀ M, IsMat n E M → IsMat n E (fun v => if f v = x then M v else none) := fun M hM => by
    have hv : ∀ v w, (if f v = x then M v else none) = some w → f v = x ∧ M v = some w := fun v w h => by
      by_cases e : f v = x
      · rw [if_pos e] at h; exact ⟨e, h⟩
      · rw [if_neg e] at h; cases h
    refine ⟨fun {v w} h => ?_, fun {v w} h => hM.edge (hv v w h).2, fun {v w} h => hM.lt (hv v w h).2⟩
    obtain ⟨h1, h2⟩ := hv v w h
    have h3 := hcl _ _ (hM.edge h2)
    show (if f w = x then M w else none) = some v
    rw [if_pos (by rw [← h3]; exact h1)]
    exact hM.symm h2
  obtain ⟨M1, a1, b1, c1⟩ := hc.2 x hx
  obtain ⟨M2, a2, b2, c2⟩ := hc.2 y hy
  have s1 := size_free hg (hpart M1 a1)
  have s2 := size_free hg (hpart M2 a2)
  have e1 : (freeL n fun v => if f v = x then M1 v else none) = (List.range n).filter fun v => decide (f v ≠ x) || decide (v = x) := by
    unfold freeL
    refine List.filter_congr fun v hv => ?_
    have hvn := List.mem_range.1 hv
    by_cases e : f v = x
    · by_cases e2 : v = x
      · subst e2; simp [e, b1]
      · have := c1 v hvn e2
        simp only [e, if_true, e2, ne_eq, not_true, decide_false, Bool.or_false]
        cases hm : M1 v with
        | none => exact absurd hm this
        | some z => simp
    · simp [e]
  have e2 : (freeL n fun v => if f v = x then M2 v else none) = (List.range n).filter fun v => decide (f v ≠ x) := by
    unfold freeL
    refine List.filter_congr fun v hv => ?_
    have hvn := List.mem_range.1 hv
    by_cases e : f v = x
    · have hvy : v ≠ y := fun h => by rw [h, hfy] at e; exact hne e.symm
      have := c2 v hvn hvy
      simp only [e, if_true, ne_eq, not_true, decide_false]
      cases hm : M2 v with
      | none => exact absurd hm this
      | some z => simp
    · simp [e]
  have hcount : ∀ k, k ≤ n → ((List.range k).filter fun v => decide (f v ≠ x) || decide (v = x)).length = ((List.range k).filter fun v => decide (f v ≠ x)).length + (if x < k then 1 else 0) := by
    intro k hk
    induction k with
    | zero => simp
    | succ k ih =>
      have := ih (by omega)
      rw [List.range_succ, List.filter_append, List.filter_append, List.length_append, List.length_append, this]
      by_cases e : k = x
      · subst e
        simp [hfx]
      · by_cases e3 : f k = x
        · simp [e, e3]; by_cases e4 : x < k
          · have : x < k + 1 := by omega
            simp [e4, this]
          · have : ¬ x < k + 1 := by omega
            simp [e4, this]
        · simp [e, e3]; by_cases e4 : x < k
          · have : x < k + 1 := by omega
            simp [e4, this]
          · have : ¬ x < k + 1 := by omega
            simp [e4, this]
  have h9 := hcount n (Nat.le_refl _)
  rw [if_pos hx] at h9
  rw [e1, h9] at s1
  rw [e2] at s2
  omega
end Go.Proofs.Ytgddfmfiiodgbaa

/- Walk of the reference's pieces (ref03.Without), of no vertices taken out. -/
namespace Go.Proofs.Ytgddfmfiiodgbaa
open Go Go.RowKit
set_option maxRecDepth 100000
set_option linter.unusedVariables false
set_option linter.unusedSimpArgs false

theorem EI_rows : EI Try.prog 76 22 (.slice none 0 0) 1 24 := ⟨Try.underlying76, by kernel_rfl, rfl, by decide, by decide⟩
def idB (k : Nat) (v : Nat) : Nat := if v < k then v else 0
theorem idB_upd (k : Nat) : upd (idB k) k k = idB (k + 1) := by
  funext v
  unfold upd idB
  by_cases e : v = k
  · subst e; simp
  · by_cases h : v < k
    · have : v < k + 1 := by omega
      simp [e, h, this]
    · have : ¬ v < k + 1 := by omega
      simp [e, h, this]

/-- The ends of so many edges bear the same label. -/
def Cl (es : List (Int × Int)) (f : Nat → Nat) (k : Nat) : Prop := ∀ (i a b : Nat), i < k → es[i]? = some ((a : Int), (b : Int)) → f a = f b
theorem Cl.all {es : List (Int × Int)} {f : Nat → Nat} (h : Cl es f es.length) {u v : Nat} (he : adjE es u v) : f u = f v := by
  rcases he with he | he
  · obtain ⟨i, hi⟩ := List.getElem?_of_mem he
    exact (h i v u (List.getElem?_eq_some_iff.1 hi).1 hi).symm
  · obtain ⟨i, hi⟩ := List.getElem?_of_mem he
    exact h i u v (List.getElem?_eq_some_iff.1 hi).1 hi
theorem Cl.succ {es : List (Int × Int)} {f : Nat → Nat} {k a b : Nat} (h : Cl es f k) (he : es[k]? = some ((a : Int), (b : Int))) (hf : f a = f b) : Cl es f (k + 1) := fun i x y hi hxy => by
  by_cases e : i = k
  · subst e
    rw [he] at hxy
    simp only [Option.some.injEq, Prod.mk.injEq] at hxy
    obtain ⟨h1, h2⟩ := hxy
    obtain rfl : a = x := by omega
    obtain rfl : b = y := by omega
    exact hf
  · exact h i x y (by omega) hxy


set_option maxHeartbeats 4000000 in
theorem without_any {n : Nat} {es : List (Int × Int)} (hP : RightP n es) (A : Option Addr) (c : Nat) (w : World) (hr : Reads w A (pcells es)) (hc : es.length ≤ c) :
    Calls Try.prog 113 #[.agg #[.int .i64 (n : Int), .slice A es.length c], .slice none 0 0] w fun e w' => ∃ (f : Nat → Nat) (A' : Option Addr) (c' : Nat), e = .returned (.slice A' (cntLb f n) c') ∧ (∀ v, f v ≤ v) ∧ (∀ u v, adjE es u v → f u = f v) ∧ Below w.heap.size w w' := by
  have hn4 : n ≤ 4096 := by have := hP.n1; omega
  have hm : es.length ≤ 65536 := hP.len
  have hmk1 := fun (W : World) => run_make_row' (P := Try.prog) 22 3 (.int .i64 0) 8 Try.underlying22 (by kernel_rfl) rfl .i64 .i64 n (by omega) (by omega) W
  have HRR := fun (W : World) (h : Below w.heap.size w W) => refRight n es A c W (hr.below h) hc (by omega)
  rw [(right_iff _ _).2 hP] at HRR
  have HIN := fun (v : Int) (W : World) => inI [] v none 0 W (.inl rfl) (Nat.le_refl _) (by simp)
  simp only [List.not_mem_nil, decide_false, List.length_nil] at HIN
  have HR := Lib.hid hr
  have HP := Lib.hid hP
  clear hr hP
  go_enter Try.func113, Try.ntmps113
  go_upto_region 1 with fail
  (have hX1 := Box2.new (Below.refl w.heap.size w) (Value.int IntKind.i64 (n : Int)) (Value.slice A es.length c) 25
   generalize w.alloc (Obj.cells #[Value.int IntKind.i64 (n : Int), Value.slice A es.length c] 25) = w1 at hX1 ⊢
   have c0 := hX1.c0
   have c1 := hX1.c1)
  have HRR1 := HRR w1 hX1.below
  go_upto_region 4 with (go_at_call 44; (refine HRR1.mono ?_; rintro e w2 ⟨rfl, hb2⟩; have hX2 := hX1.go hb2; have x0 := hX2.c0; have x1 := hX2.c1; have hmk2 := hmk1 w2))
  have hrow : RowI (w2.alloc (Obj.cells (madeCells #[Value.int .i64 0] n) 3)) 3 w2.heap.size (natL n (idB 0)) := by
    have e : idB 0 = fun _ => 0 := by funext v; simp [idB]
    rw [e, natL_made]; exact heap_alloc_new _ _
  have hX3 := hX2.old (Obj.cells (madeCells #[Value.int .i64 0] n) 3)
  have hlo := hX2.lt
  generalize w2.alloc (Obj.cells (madeCells #[Value.int .i64 0] n) 3) = w3 at hX3 hrow ⊢
  obtain ⟨bn, hbn⟩ : ∃ b, b = w2.heap.size := ⟨_, rfl⟩
  rw [← hbn] at hrow hlo ⊢
  have HT : Hid (TbW w n es A c bn w3 (idB 0)) := ⟨hX3, hrow, hlo⟩
  clear hX3 hrow hlo hbn hX2 hX1 c0 c1 x0 x1 hmk1 hmk2 HRR HRR1 hb2
  clear w2 w1
  go_wp2_with fail
  go_loopw [6] (fun i wr => ∃ (k : Nat), i = .int .i64 k ∧ k ≤ n ∧ Hid (TbW w n es A c bn wr (idB k))) (fun i _ => n - (intOf i).toNat)
  case atStart => exact ⟨0, rfl, Nat.zero_le _, HT⟩
  case round =>
    clear HT
    obtain ⟨k, rfl, hk, hT⟩ := hrel
    have c0 := hT.out.box.c0
    have c1 := hT.out.box.c1
    by_cases hlt : k < n
    · have i1 : (0 : Int) ≤ (k : Int) := by omega
      have i2 : (k : Int) < (n : Int) := by omega
      have ca := hT.out.row.cell (natL_get (f := idB k) hlt)
      have fa := hT.out.row.frozen k
      have hT2 := hT.out.set k k
      rw [idB_upd] at hT2
      have HT2 := Lib.hid hT2
      clear hT hT2
      go_wp2_with (go_at_call 80; (refine (HIN _ _).mono ?_; rintro e w4 ⟨rfl, rfl⟩))
      exact ⟨⟨k + 1, by go_num, by omega, HT2⟩, by simp [intOf]; omega⟩
    · obtain rfl : k = n := by omega
      have i2 : ¬ (k : Int) < (k : Int) := by omega
      clear HIN
      go_wp2_with fail
      go_loopg [7] (2 * sumF k (idB k) + 1) (fun g p wr => ∃ (f : Nat → Nat) (x : Bool), p = .bool x ∧ Hid (TbW w k es A c bn wr f) ∧ Hid (∀ v, f v ≤ v) ∧ Hid (x = false → Cl es f es.length) ∧ Hid (2 * sumF k f + (if x = true then 1 else 0) ≤ g))
      case atStart => exact ⟨idB k, true, rfl, hT, Lib.hid (fun v => (by unfold idB; split <;> omega)), Lib.hid (fun h => (by cases h)), Lib.hid (by simp)⟩
      case round =>
        clear hT c0 c1
        obtain ⟨f, x, rfl, hT, hF, hC, hG⟩ := hrel
        have c0 := hT.out.box.c0
        have c1 := hT.out.box.c1
        cases x with
        | false =>
          have hC' := Lib.hid (hC.out rfl)
          clear hC hG
          go_wp2_with fail
          have HCL := Lib.hid (And.intro hF.out hC'.out)
          have HT9 := Lib.hid hT.out
          have hbw := HT9.out.box.below
          have hbnl : bn < wr.heap.size := heap_lt0 HT9.out.row
          clear hF hC' hT c0 c1
          obtain ⟨w4, hw4⟩ : ∃ w4, w4 = wr := ⟨_, rfl⟩
          have HB0 := Lib.hid (show Below w4.heap.size w4 wr by rw [hw4]; exact Below.refl _ _)
          rw [← hw4] at HT9 hbw hbnl
          clear hw4
          go_loopw [12, 13] (fun p q wx => ∃ (v : Nat) (A' : Option Addr) (c' : Nat) (xs : List Value), p = .slice A' (cntLb f v) c' ∧ q = .int .i64 v ∧ v ≤ k ∧ Hid (wx.ownsRow w4.heap.size 22 1 (.slice A' (cntLb f v) c') (cntLb f v) xs) ∧ Hid (Below w4.heap.size w4 wx)) (fun _ q _ => k - (intOf q).toNat)
          case atStart => exact ⟨0, none, 0, [], rfl, rfl, Nat.zero_le _, own_nil0 _ _ _ _, HB0⟩
          case round =>
            clear HB0
            obtain ⟨v, A', c', xs, rfl, rfl, hv, hO, hB⟩ := hrel
            have hX := HT9.out.box.go hB.out
            have c0 := hX.c0
            by_cases hlv : v < k
            · have v1 : (0 : Int) ≤ (v : Int) := by omega
              have v2 : (v : Int) < (k : Int) := by omega
              have cv := (HT9.out.row.below hB.out hbnl).cell (natL_get (f := f) hlv)
              by_cases heq : f v = v
              · have n3 : (((f v : Nat) : Int) != (v : Int)) = false := by simp [heq]
                have hcy := cntLb_yes heq
                have HCY := Lib.hid hcy
                have hbx := hB.out
                have hwx := hbx.size
                clear hcy
                go_wp2_with fail
                clear c0 cv
                go_loopw [14, 15] (fun p q wy => ∃ (u : Nat) (ys : List Int) (A5 : Option Addr) (c5 : Nat), p = .slice A5 ys.length c5 ∧ q = .int .i64 u ∧ u ≤ k ∧ ys.length ≤ u ∧ Hid (OwnI wr wy (.slice A5 ys.length c5) ys)) (fun _ q _ => k - (intOf q).toNat)
                case atStart => exact ⟨0, [], none, 0, rfl, rfl, Nat.zero_le _, Nat.zero_le _, OwnI.nil wr⟩
                case round =>
                  obtain ⟨u, ys, A5, c5, rfl, rfl, hu, hyl, hY⟩ := hrel
                  have hby := hY.out.2
                  have hXy := hX.go hby
                  have c0 := hXy.c0
                  by_cases hlu : u < k
                  · have u1 : (0 : Int) ≤ (u : Int) := by omega
                    have u2 : (u : Int) < (k : Int) := by omega
                    have cu := ((HT9.out.row.below hbx hbnl).below hby (Nat.lt_of_lt_of_le hbnl hwx)).cell (natL_get (f := f) hlu)
                    by_cases hfu : f u = v
                    · have n4 : (((f u : Nat) : Int) == (v : Int)) = true := by simp [hfu]
                      have hal : ys.length ≤ 10000000 := by omega
                      have hy1 : ys.length + 1 ≤ u + 1 := by omega
                      go_wp2_with (at_builtin; go_loud ((refine wpList_snocI EI_int rfl (.tmp 122) (.tmp 124) rfl hY.out rfl (u : Int) wr.heap.size rfl rfl hal ?_); intro A6 c6 w6 hY6 _ _))
                      exact ⟨⟨u + 1, ys ++ [(u : Int)], A6, c6, by simp, by go_num, by omega, by simpa using hy1, hY6⟩, by simp [intOf]; omega⟩
                    · have n4 : (((f u : Nat) : Int) == (v : Int)) = false := by rw [beq_eq_false_iff_ne]; omega
                      go_wp2_with fail
                      exact ⟨⟨u + 1, ys, A5, c5, rfl, by go_num, by omega, by omega, hY⟩, by simp [intOf]; omega⟩
                  · have u2 : ¬ (u : Int) < (k : Int) := by omega
                    have hck := cntLb_le f v
                    have hO6 := hO.out
                    go_wp2_with (at_builtin; go_loud (
                      refine wpList_app EI_rows rfl (.tmp 126) (.tmp 128) rfl w4.heap.size (.slice A' (cntLb f v) c') (cntLb f v) xs rfl ?_ (some ⟨wr.heap.size, 0, none⟩) 1 1 [.slice A5 ys.length c5] rfl ?_ rfl ?_ ?_ ?_ ?_
                      · exact own_below0 hO6 (hby.trans (((Below.refl _ _).alloc (Nat.le_refl _) _).mono hby.size))
                      · exact reads_new _ [_] _
                      · simp [Value.oneCell']
                      · omega
                      · rw [World.size_alloc]; have := hby.size; omega
                      intro v7 w7 hown7 hg7 hat7
                      have hb7 : Below w4.heap.size w4 w7 := below_app ((hbx.trans (hby.mono hbx.size)).alloc (by have := hby.size; omega) _) hg7 (by rw [World.size_alloc]; have := hby.size; omega) (fun g hg => (own_lt0 hO6 g hg).1)
                      obtain ⟨A7, c7, rfl, hc7, _⟩ := own_reads0 hown7))
                    rw [← HCY.out] at hown7
                    exact ⟨⟨v + 1, A7, c7, _, by rw [HCY.out], by go_num, by omega, hown7, hb7⟩, by simp [intOf]; omega⟩
              · have n3 : (((f v : Nat) : Int) != (v : Int)) = true := by simp; omega
                have hcn := Lib.hid (cntLb_no heq)
                go_wp2_with fail
                rw [← hcn.out] at hO
                exact ⟨⟨v + 1, A', c', xs, by rw [hcn.out], by go_num, by omega, hO, hB⟩, by simp [intOf]; omega⟩
            · obtain rfl : v = k := by omega
              have v2 : ¬ (v : Int) < (v : Int) := by omega
              go_wp2_with fail
              go_ret
              exact ⟨f, ⟨A', c', rfl⟩, HCL.out.1, fun u x he => HCL.out.2.all he, hbw.trans (hB.out.mono hbw.size)⟩
        | true =>
          have hG2 := hG.out
          rw [if_pos rfl] at hG2
          have hG' := Lib.hid hG2
          clear hC hG hG2
          go_wp2_with fail
          go_loopw [7, 8] (fun p q wr => ∃ (f' : Nat → Nat) (y : Bool) (j : Nat), p = .bool y ∧ q = .int .i64 j ∧ j ≤ es.length ∧ Hid (TbW w k es A c bn wr f') ∧ Hid (∀ v, f' v ≤ v) ∧ Hid ((y = true ∧ sumF k f' < sumF k f) ∨ (y = false ∧ f' = f ∧ Cl es f j))) (fun _ q _ => es.length - (intOf q).toNat)
          case atStart => exact ⟨f, false, 0, rfl, rfl, Nat.zero_le _, hT, hF, Lib.hid (.inr ⟨rfl, rfl, fun i a b hi _ => (by omega)⟩)⟩
          case round =>
            clear hT hF c0 c1
            obtain ⟨f', y, j, rfl, rfl, hj, hT, hF, hD⟩ := hrel
            have c0 := hT.out.box.c0
            have c1 := hT.out.box.c1
            by_cases hlt' : j < es.length
            · obtain ⟨⟨a', b'⟩, hxy⟩ : ∃ e, es[j]? = some e := ⟨es[j], by simp [hlt']⟩
              have hok := HP.out.ok _ (List.mem_of_getElem? hxy)
              simp only at hok
              obtain ⟨a, rfl⟩ : ∃ z : Nat, a' = (z : Int) := ⟨a'.toNat, by omega⟩
              obtain ⟨b, rfl⟩ : ∃ z : Nat, b' = (z : Int) := ⟨b'.toNat, by omega⟩
              obtain ⟨eb, eo, hA, _, cx, cy⟩ := (HR.out.below hT.out.box.below).pair' j _ hxy
              simp only at cx cy
              rw [hA]
              rw [hA] at c1
              have HA := Lib.hid hA
              have HXY := Lib.hid hxy
              have j1 : (0 : Int) ≤ (j : Int) := by omega
              have j2 : (j : Int) < (es.length : Int) := by omega
              have hab : a < b := by omega
              have hbk : b < k := by omega
              have hak : a < k := by omega
              have a1 : (0 : Int) ≤ (a : Int) := by omega
              have a2 : (a : Int) < (k : Int) := by omega
              have b1 : (0 : Int) ≤ (b : Int) := by omega
              have b2 : (b : Int) < (k : Int) := by omega
              have ca := hT.out.row.cell (natL_get (f := f') hak)
              have cb := hT.out.row.cell (natL_get (f := f') hbk)
              clear hA hxy
              go_upto_region 16 with fail
              go_quiet (fail)
              have hT2 := Lib.hid (hT.out.drewN nq)
              clear hT c0 c1 ca cb cx cy
              generalize wr.drewN nq = w5 at hT2 ⊢
              have ca := hT2.out.row.cell (natL_get (f := f') hak)
              have cb := hT2.out.row.cell (natL_get (f := f') hbk)
              have n1 : ¬ ((f' a : Nat) : Int) < 0 := by omega
              have n2 : ¬ ((f' b : Nat) : Int) < 0 := by omega
              by_cases heq : f' a = f' b
              · have n3 : (((f' a : Nat) : Int) == ((f' b : Nat) : Int)) = true := by simp [heq]
                have hT3 := Lib.hid (fun q => hT2.out.drewN q)
                have hD3 : Hid ((y = true ∧ sumF k f' < sumF k f) ∨ (y = false ∧ f' = f ∧ Cl es f (j + 1))) := by
                  rcases hD.out with h | ⟨h1, h2, h3⟩
                  · exact .inl h
                  · exact .inr ⟨h1, h2, h3.succ HXY.out (by rw [← h2]; exact heq)⟩
                clear hD hT2
                go_upto_region 17 with fail
                go_quiet (fail)
                go_wp2_with fail
                rw [← HA.out]
                go_roundw
                case rel => exact ⟨f', y, j + 1, rfl, by go_num, by omega, hT3.out nq, hF, hD3⟩
                case measure => simp [intOf]; omega
              · have n3 : (((f' a : Nat) : Int) == ((f' b : Nat) : Int)) = false := by rw [beq_eq_false_iff_ne]; omega
                by_cases hmn : f' b < f' a
                · have i9 : ((f' b : Nat) : Int) < ((f' a : Nat) : Int) := by omega
                  (have hle9 : ∀ v, upd (upd f' a (f' b)) b (f' b) v ≤ f' v := fun v => by
                     by_cases h1 : v = b
                     · subst h1; rw [upd_same]; omega
                     · rw [upd_ne _ _ h1]
                       by_cases h2 : v = a
                       · subst h2; rw [upd_same]; omega
                       · rw [upd_ne _ _ h2]; exact Nat.le_refl _
                   have hsum : sumF k (upd (upd f' a (f' b)) b (f' b)) < sumF k f' := by
                     first
                       | exact sumF_lt hle9 hak (by rw [upd_ne _ _ (show a ≠ b by omega), upd_same]; omega)
                       | exact sumF_lt hle9 hbk (by rw [upd_same]; omega)
                   have hD3 : Hid (sumF k (upd (upd f' a (f' b)) b (f' b)) < sumF k f) := by
                     rcases hD.out with h | ⟨h1, h2, h3⟩
                     · exact Nat.lt_trans hsum h.2
                     · rw [← h2]; exact hsum
                   have hF3 : Hid (∀ v, upd (upd f' a (f' b)) b (f' b) v ≤ v) := fun v => Nat.le_trans (hle9 v) (hF.out v)
                   have hab9 : a ≠ b := by omega
                   clear hD hle9 hsum
                   go_upto_region 17 with fail
                   go_quiet (fail)
                   go_wp2_with fail
                   have hT3 := Lib.hid (hT2.out.drewN nq)
                   clear hT2 ca cb
                   generalize w5.drewN nq = w6 at hT3 ⊢
                   have ca := hT3.out.row.cell (natL_get (f := f') hak)
                   have cb := hT3.out.row.cell (natL_get (f := f') hbk)
                   go_quiet (fail)
                   have hT4 := Lib.hid (hT3.out.drewN nq)
                   clear hT3 ca cb
                   generalize w6.drewN nq = w7 at hT4 ⊢
                   have ca := hT4.out.row.cell (natL_get (f := f') hak)
                   have fa := hT4.out.row.frozen a
                   have cb := hT4.out.row.cell (natL_get (f := f') hbk)
                   have fb := hT4.out.row.frozen b
                   have hT5 := Lib.hid ((hT4.out.set a (f' b)).set b (f' b))
                   clear hT4
                   go_wp2_with fail
                   rw [← HA.out]
                   go_roundw
                   case rel => exact ⟨_, true, j + 1, rfl, by go_num, by omega, hT5, hF3, Lib.hid (.inl ⟨rfl, hD3.out⟩)⟩
                   case measure => simp [intOf]; omega)
                · have i9 : ¬ ((f' b : Nat) : Int) < ((f' a : Nat) : Int) := by omega
                  (have hle9 : ∀ v, upd (upd f' a (f' a)) b (f' a) v ≤ f' v := fun v => by
                     by_cases h1 : v = b
                     · subst h1; rw [upd_same]; omega
                     · rw [upd_ne _ _ h1]
                       by_cases h2 : v = a
                       · subst h2; rw [upd_same]; omega
                       · rw [upd_ne _ _ h2]; exact Nat.le_refl _
                   have hsum : sumF k (upd (upd f' a (f' a)) b (f' a)) < sumF k f' := by
                     first
                       | exact sumF_lt hle9 hak (by rw [upd_ne _ _ (show a ≠ b by omega), upd_same]; omega)
                       | exact sumF_lt hle9 hbk (by rw [upd_same]; omega)
                   have hD3 : Hid (sumF k (upd (upd f' a (f' a)) b (f' a)) < sumF k f) := by
                     rcases hD.out with h | ⟨h1, h2, h3⟩
                     · exact Nat.lt_trans hsum h.2
                     · rw [← h2]; exact hsum
                   have hF3 : Hid (∀ v, upd (upd f' a (f' a)) b (f' a) v ≤ v) := fun v => Nat.le_trans (hle9 v) (hF.out v)
                   have hab9 : a ≠ b := by omega
                   clear hD hle9 hsum
                   go_upto_region 17 with fail
                   go_quiet (fail)
                   go_wp2_with fail
                   have hT3 := Lib.hid (hT2.out.drewN nq)
                   clear hT2 ca cb
                   generalize w5.drewN nq = w6 at hT3 ⊢
                   have ca := hT3.out.row.cell (natL_get (f := f') hak)
                   have cb := hT3.out.row.cell (natL_get (f := f') hbk)
                   go_quiet (fail)
                   have hT4 := Lib.hid (hT3.out.drewN nq)
                   clear hT3 ca cb
                   generalize w6.drewN nq = w7 at hT4 ⊢
                   have ca := hT4.out.row.cell (natL_get (f := f') hak)
                   have fa := hT4.out.row.frozen a
                   have cb := hT4.out.row.cell (natL_get (f := f') hbk)
                   have fb := hT4.out.row.frozen b
                   have hT5 := Lib.hid ((hT4.out.set a (f' a)).set b (f' a))
                   clear hT4
                   go_wp2_with fail
                   rw [← HA.out]
                   go_roundw
                   case rel => exact ⟨_, true, j + 1, rfl, by go_num, by omega, hT5, hF3, Lib.hid (.inl ⟨rfl, hD3.out⟩)⟩
                   case measure => simp [intOf]; omega)
            · obtain rfl : j = es.length := by omega
              have j2 : ¬ (es.length : Int) < (es.length : Int) := by omega
              have hD9 : Hid (∃ x : Bool, x = y ∧ (x = false → Cl es f' es.length) ∧ 2 * sumF k f' + (if x = true then 1 else 0) < 2 * sumF k f + 1) := by
                rcases hD.out with ⟨rfl, h2⟩ | ⟨rfl, h2, h3⟩
                · exact ⟨true, rfl, fun h => (by cases h), by rw [if_pos rfl]; omega⟩
                · subst h2
                  exact ⟨false, rfl, fun _ => h3, by simp⟩
              obtain ⟨y2, hy2, hD1, hD2⟩ := hD9.out
              rw [hy2] at hD1 hD2
              have HD1 := Lib.hid hD1
              have HD2 := Lib.hid hD2
              clear hD hD9 hD1 hD2 hy2
              go_wp2_with fail
              go_roundg (2 * sumF k f' + (if y = true then 1 else 0))
              case rel => exact ⟨f', y, rfl, hT, hF, HD1, Lib.hid (Nat.le_refl _)⟩
              case measure => have h1 := HD2.out; have h2 := hG'.out; omega
end Go.Proofs.Ytgddfmfiiodgbaa

/- Walk of the reference's Critical. -/
namespace Go.Proofs.Ytgddfmfiiodgbaa
open Go Go.RowKit
set_option maxRecDepth 100000
set_option linter.unusedVariables false
set_option linter.unusedSimpArgs false

theorem crit_cnt {n : Nat} {es : List (Int × Int)} (hP : RightP n es) {f : Nat → Nat} (hf : ∀ v, f v ≤ v) (hcl : ∀ u v, adjE es u v → f u = f v) (h : critB n es = true) : cntLb f n = 1 := by
  have hC := (critB_iff.1 h).2
  have h1 := cntLb_pos hf hC.1
  have h2 := cntLb_two (f := f) (n := n) fun x y hx hy hfx hfy => crit_one (right_gr hP) hC hcl hx hy hfx hfy
  omega

set_option maxHeartbeats 1000000 in
theorem refcrit_any {n : Nat} {es : List (Int × Int)} (hP : RightP n es) (hn : n ≤ 20) (A : Option Addr) (c : Nat) (w : World) (hr : Reads w A (pcells es)) (hc : es.length ≤ c) :
    Calls Try.prog 56 #[.agg #[.int .i64 (n : Int), .slice A es.length c]] w fun e w' => e = .returned (.bool (critB n es)) ∧ Below w.heap.size w w' := by
  have HW := fun (W : World) (h : Below w.heap.size w W) => without_any hP A c W (hr.below h) hc
  have HMI := fun (v : Nat) (hv : v < n) (W : World) (h : Below w.heap.size w W) => misses_any hP hn hv A c W (hr.below h) hc
  have HP := Lib.hid hP
  clear hr hP
  go_enter Try.func56, Try.ntmps56
  go_upto_region 1 with fail
  (have hX1 := Box2.new (Below.refl w.heap.size w) (Value.int IntKind.i64 (n : Int)) (Value.slice A es.length c) 25
   generalize w.alloc (Obj.cells #[Value.int IntKind.i64 (n : Int), Value.slice A es.length c] 25) = w1 at hX1 ⊢
   have c0 := hX1.c0
   have c1 := hX1.c1)
  have HW1 := HW w1 hX1.below
  have hX2 := fun (w2 : World) (h : Below w1.heap.size w1 w2) => hX1.go h
  go_upto_if 7 with (go_at_call 113; (refine HW1.mono ?_; rintro e w2 ⟨f, A2, c2, rfl, hf, hcl, hb2⟩))
  have hX2 := hX1.go hb2
  have hcnt := fun h => crit_cnt HP.out hf hcl h
  have hz : n = 0 → cntLb f n = 0 := fun h => by rw [h]; rfl
  generalize cntLb f n = k at hcnt hz ⊢
  by_cases hk : k = 1
  · have i9 : ((k : Int) != 1) = false := by simp [hk]
    rw [i9]
    have hn0 : n ≠ 0 := fun h => by have := hz h; omega
    have HX2 := Lib.hid hX2
    clear HW HW1 hX1 hX2 hb2 hf hcl hcnt hz c0 c1 hk
    go_wp2_with fail
    go_loopw [2, 3] (fun p i wr => ∃ (v : Nat), i = .int .i64 v ∧ v ≤ n ∧ Hid (∀ u, u < v → lacksB n es u = true) ∧ Hid (Below w2.heap.size w2 wr)) (fun _ i _ => n - (intOf i).toNat)
    case atStart => exact ⟨0, rfl, Nat.zero_le _, Lib.hid (fun u hu => absurd hu (by omega)), Below.refl _ _⟩
    case round =>
      obtain ⟨v, rfl, hv, hall, hb⟩ := hrel
      have hX := HX2.out.go hb.out
      have c0 := hX.c0
      have c1 := hX.c1
      by_cases hlt : v < n
      · have i1 : (v : Int) < (n : Int) := by omega
        have HM := HMI v hlt wr hX.below
        have hbx := hX.below
        cases hl : lacksB n es v with
        | true =>
          rw [hl] at HM
          have hall2 : Hid (∀ u, u < v + 1 → lacksB n es u = true) := fun u hu => by
            by_cases e : u = v
            · subst e; exact hl
            · exact hall.out u (by omega)
          clear hall hl
          go_wp2_with (go_at_call 57; ((with_reducible refine HM.mono ?_); rintro e w3 ⟨rfl, hb3⟩))
          go_roundw
          case rel => exact ⟨v + 1, by go_num, by omega, hall2, Lib.hid (below_on hb.out hb3)⟩
          case measure => simp [intOf]; omega
        | false =>
          rw [hl] at HM
          have hcr : critB n es = false := critB_not fun _ hC => by
            rw [lacksB_iff.2 (hC.2 v hlt)] at hl
            cases hl
          clear hall hl
          go_wp2_with (go_at_call 57; ((with_reducible refine HM.mono ?_); rintro e w3 ⟨rfl, hb3⟩))
          (try rw [hcr])
          go_ret
          exact ⟨by simp [hcr], below_on hbx hb3⟩
      · obtain rfl : v = n := by omega
        have i1 : ¬ (v : Int) < (v : Int) := by omega
        have hcr : critB v es = true := critB_of HP.out ⟨by omega, fun u hu => lacksB_iff.1 (hall.out u hu)⟩
        have hbx := hX.below
        go_wp2_with fail
        (try rw [hcr])
        go_ret
        exact ⟨by simp [hcr], hbx⟩
  · have i1 : ((k : Int) == 1) = false := by rw [beq_eq_false_iff_ne]; omega
    have i2 : ((k : Int) != 1) = true := by simp; omega
    have hcr : critB n es = false := by
      cases e : critB n es with
      | false => rfl
      | true => exact absurd (hcnt e) hk
    have hbx := hX2.below
    go_wp2_with fail
    (try rw [hcr])
    go_ret
    exact ⟨by simp [hcr], hbx⟩
end Go.Proofs.Ytgddfmfiiodgbaa
