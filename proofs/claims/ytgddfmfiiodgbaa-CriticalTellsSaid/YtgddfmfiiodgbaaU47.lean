/- critical.Missing. -/
import Derived.Test.YtgddfmfiiodgbaaU46
import Derived.Test.YtgddfmfiiodgbaaU26
import Derived.Test.YtgddfmfiiodgbaaU08
import Derived.Test.YtgddfmfiiodgbaaU34
import Derived.Test.YtgddfmfiiodgbaaU45
import Derived.Test.YtgddfmfiiodgbaaU29
namespace Go.Proofs.Ytgddfmfiiodgbaa
open Go Go.RowKit
set_option maxRecDepth 100000
set_option linter.unusedVariables false
set_option linter.unusedSimpArgs false

/-- Why there is no such matching; 0: the vertex is one. -/
def misErr (n : Int) (es : List (Int × Int)) (v : Int) : Int := if rightB n es = false then 3 else if v < 0 ∨ n ≤ v then 4 else 0

theorem missing_bad (n v : Int) (es : List (Int × Int)) (A : Option Addr) (c : Nat) (w : World) (hr : Reads w A (pcells es)) (hc : es.length ≤ c) (hm : es.length ≤ 4611686018427387903) (he : misErr n es v ≠ 0) :
    Calls Try.prog 53 #[.agg #[.int .i64 n, .slice A es.length c], .int .i64 v] w fun e w' => e = .returned (.tuple #[.slice none 0 0, .int .i64 (misErr n es v)]) ∧ Below w.heap.size w w' := by
  have HRI := fun (W : World) (h : Reads W A (pcells es)) => right_any n es A c W h hc hm
  have HR := Lib.hid hr
  clear hr
  unfold misErr at *
  cases hR : rightB n es with
  | false =>
    rw [hR] at HRI
    rw [if_pos rfl]
    clear hR he
    go_enter Try.func53, Try.ntmps53
    go_upto_region 1 with fail
    (have hX1 := Box2.new (Below.refl w.heap.size w) (Value.int IntKind.i64 n) (Value.slice A es.length c) 25
     generalize w.alloc (Obj.cells #[Value.int IntKind.i64 n, Value.slice A es.length c] 25) = w1 at hX1 ⊢
     have c0 := hX1.c0
     have c1 := hX1.c1)
    go_wp2_with (go_at_call 91; (refine (HRI w1 (HR.out.below hX1.below)).mono ?_; rintro e w2 ⟨rfl, hb2⟩))
    go_ret2
    exact ⟨rfl, hX1.below.trans (hb2.mono hX1.below.size)⟩
  | true =>
    rw [hR] at HRI he
    rw [if_neg (by simp)] at he ⊢
    by_cases h0 : v < 0
    · rw [if_pos (.inl h0)]
      have d1 : decide (v < 0) = true := decide_eq_true h0
      clear hR he
      go_enter Try.func53, Try.ntmps53
      go_upto_region 1 with fail
      (have hX1 := Box2.new (Below.refl w.heap.size w) (Value.int IntKind.i64 n) (Value.slice A es.length c) 25
       generalize w.alloc (Obj.cells #[Value.int IntKind.i64 n, Value.slice A es.length c] 25) = w1 at hX1 ⊢
       have c0 := hX1.c0
       have c1 := hX1.c1)
      go_wp2_with (go_at_call 91; (refine (HRI w1 (HR.out.below hX1.below)).mono ?_; rintro e w2 ⟨rfl, hb2⟩))
      go_ret2
      exact ⟨rfl, hX1.below.trans (hb2.mono hX1.below.size)⟩
    · by_cases h1 : n ≤ v
      · rw [if_pos (.inr h1)]
        have d1 : decide (v < 0) = false := decide_eq_false h0
        have d2 : decide (n ≤ v) = true := decide_eq_true h1
        clear hR he
        go_enter Try.func53, Try.ntmps53
        go_upto_region 1 with fail
        (have hX1 := Box2.new (Below.refl w.heap.size w) (Value.int IntKind.i64 n) (Value.slice A es.length c) 25
         generalize w.alloc (Obj.cells #[Value.int IntKind.i64 n, Value.slice A es.length c] 25) = w1 at hX1 ⊢
         have c0 := hX1.c0
         have c1 := hX1.c1)
        go_wp2_with (go_at_call 91; (refine (HRI w1 (HR.out.below hX1.below)).mono ?_; rintro e w2 ⟨rfl, hb2⟩; have hX2 := hX1.go hb2; have d0 := hX2.c0))
        go_ret2
        exact ⟨rfl, hX1.below.trans (hb2.mono hX1.below.size)⟩
      · exact absurd (if_neg (by omega)) he

/-- The mates, as far as they are laid. -/
def fA (n : Nat) (kp : Nat → Bool) (M' : Nat → Option Nat) (a x : Nat) : Int := if x < n ∧ kp x = true ∧ rkN kp x < a then encO (liftM n kp M' x) else -1
theorem fA_succ {n a x y : Nat} {kp : Nat → Bool} {M' : Nat → Option Nat} (hx : (wasL n kp)[a]? = some x) (hy : liftM n kp M' x = some y) : upd (fA n kp M' a) x (y : Int) = fA n kp M' (a + 1) := by
  obtain ⟨h1, h2, h3⟩ := was_mem kp hx
  funext z
  unfold upd fA
  by_cases e : z = x
  · subst e
    rw [if_pos rfl, if_pos ⟨h1, h2, by omega⟩, hy]
    rfl
  · rw [if_neg e]
    have hiff : (z < n ∧ kp z = true ∧ rkN kp z < a + 1) ↔ (z < n ∧ kp z = true ∧ rkN kp z < a) := by
      constructor
      · rintro ⟨a1, a2, a3⟩
        refine ⟨a1, a2, ?_⟩
        have : rkN kp z ≠ a := fun e' => e (rkN_inj kp a2 h2 (e'.trans h3.symm))
        omega
      · rintro ⟨a1, a2, a3⟩; exact ⟨a1, a2, by omega⟩
    by_cases h9 : z < n ∧ kp z = true ∧ rkN kp z < a
    · rw [if_pos h9, if_pos (hiff.2 h9)]
    · rw [if_neg h9, if_neg (fun h => h9 (hiff.1 h))]
theorem fA_end {n : Nat} {kp : Nat → Bool} {M' : Nat → Option Nat} : rowL n (fA n kp M' (rkN kp n)) = mateL n (liftM n kp M') := by
  rw [rowL_mate]
  refine rowL_congr fun x hx => ?_
  unfold fA
  by_cases hk : kp x = true
  · rw [if_pos ⟨hx, hk, rkN_lt kp hx hk⟩]
  · rw [if_neg (fun h => hk h.2.1)]
    unfold liftM
    rw [if_neg (fun h => hk h.2)]
    rfl
theorem fA_zero {n : Nat} {kp : Nat → Bool} {M' : Nat → Option Nat} : rowL n (fA n kp M' 0) = List.replicate n (-1) := by
  have : rowL n (fA n kp M' 0) = rowL n (fun _ => -1) := rowL_congr fun x _ => by unfold fA; rw [if_neg (fun h => by omega)]
  rw [this]
  simp [rowL, List.map_const']

def MisPost (n : Nat) (es : List (Int × Int)) (v : Nat) (w : World) (e : Ending) (w' : World) : Prop :=
  (∃ M B, e = .returned (.tuple #[.slice (some ⟨B, 0, none⟩) n n, .int .i64 0]) ∧ IsMat n (adjE es) M ∧ M v = none ∧ (∀ u, u < n → u ≠ v → M u ≠ none) ∧ RowI w' 3 B (mateL n M) ∧ w.heap.size ≤ B ∧ Below w.heap.size w w') ∨
  (¬ Lacks n (adjE es) v ∧ e = .returned (.tuple #[.slice none 0 0, .int .i64 7]) ∧ Below w.heap.size w w')

set_option maxHeartbeats 2000000 in
theorem missing_any {n v : Nat} {es : List (Int × Int)} (hP : RightP n es) (hv : v < n) (A : Option Addr) (c : Nat) (w : World) (hr : Reads w A (pcells es)) (hc : es.length ≤ c) :
    Calls Try.prog 53 #[.agg #[.int .i64 (n : Int), .slice A es.length c], .int .i64 (v : Int)] w (MisPost n es v w) := by
  have hn : n ≤ 4096 := by have := hP.n1; omega
  have HRI := fun (W : World) (h : Reads W A (pcells es)) => right_any (n : Int) es A c W h hc (by have := hP.len; omega)
  rw [(right_iff _ _).2 hP] at HRI
  have HWO := fun (W : World) (pb : Nat) (h : Reads W A (pcells es)) (h2 : RowI W 3 pb [(v : Int)]) => without_one hP hv A c pb W h hc h2
  have HNO := fun (W : World) (h : Reads W A (pcells es)) => none_any n es A c W h hc (by have := hP.len; omega) ((right_iff _ _).2 hP)
  have hPk := keptL_right hP (kpV v)
  have HLA := fun (W : World) (A' : Option Addr) (c' : Nat) (h : Reads W A' (pcells (keptL (kpV v) es))) (h2 : (keptL (kpV v) es).length ≤ c') => largest_yes (rkN (kpV v) n) (keptL (kpV v) es) A' c' W h h2 ((right_iff _ _).2 hPk)
  have HR := Lib.hid hr
  have HP := Lib.hid hP
  have HPK := Lib.hid hPk
  have hmn := rkN_le (kpV v) n
  have d1 : decide ((v : Int) < 0) = false := decide_eq_false (by omega)
  have d2 : decide ((n : Int) ≤ (v : Int)) = false := decide_eq_false (by omega)
  clear hr hP hPk
  go_enter Try.func53, Try.ntmps53
  go_upto_region 1 with fail
  (have hX1 := Box2.new (Below.refl w.heap.size w) (Value.int IntKind.i64 (n : Int)) (Value.slice A es.length c) 25
   generalize w.alloc (Obj.cells #[Value.int IntKind.i64 (n : Int), Value.slice A es.length c] 25) = w1 at hX1 ⊢
   have c0 := hX1.c0
   have c1 := hX1.c1)
  go_upto_region 5 with (go_at_call 91; (refine (HRI w1 (HR.out.below hX1.below)).mono ?_; rintro e w2 ⟨rfl, hb2⟩; have hX2 := hX1.go hb2; have d0 := hX2.c0))
  have e0 := hX2.c1
  have hal : Below w2.heap.size w2 (w2.alloc (Obj.cells #[Value.int .i64 (v : Int)] 3)) := (Below.refl _ _).alloc (Nat.le_refl _) _
  have hX3 := hX2.go hal
  have HW3 := HWO (w2.alloc (Obj.cells #[Value.int .i64 (v : Int)] 3)) w2.heap.size (HR.out.below hX3.below) (heap_alloc_new _ _)
  have HX3 := Lib.hid hX3
  clear hX1 hb2 HRI HWO hX3 hal
  go_upto_region 6 with (go_at_call 107; (refine HW3.mono ?_; rintro e w3 ⟨A', c', wA, wc, rfl, hc', hwc, hr1, hr2, hb3⟩))
  have hX4 := (HX3.out.go hb3).old (Obj.cells #[Value.int .i64 ((rkN (kpV v) n : Nat) : Int), Value.slice A' (keptL (kpV v) es).length c'] 25)
  have hG4 := Box2.new (HX3.out.go hb3).below (.int .i64 ((rkN (kpV v) n : Nat) : Int)) (.slice A' (keptL (kpV v) es).length c') 25
  have hr3 := hr1.below ((Below.refl w3.heap.size w3).alloc (Nat.le_refl _) (Obj.cells #[Value.int .i64 ((rkN (kpV v) n : Nat) : Int), Value.slice A' (keptL (kpV v) es).length c'] 25))
  have hr4 := hr2.below ((Below.refl w3.heap.size w3).alloc (Nat.le_refl _) (Obj.cells #[Value.int .i64 ((rkN (kpV v) n : Nat) : Int), Value.slice A' (keptL (kpV v) es).length c'] 25))
  generalize w3.alloc (Obj.cells #[Value.int .i64 ((rkN (kpV v) n : Nat) : Int), Value.slice A' (keptL (kpV v) es).length c'] 25) = w4 at hX4 hG4 hr3 hr4 ⊢
  obtain ⟨b6, h6⟩ : ∃ b, b = w3.heap.size := ⟨_, rfl⟩
  rw [← h6] at hG4 ⊢
  have HL4 := HLA w4 A' c' hr3 hc'
  clear hr1 hr2 hb3 h6 HX3 HW3 d0 e0 hX2 c0 c1 HLA d1 d2
  have c0 := hG4.c0
  have c1 := hG4.c1
  go_upto_region 7 with (go_at_call 32; (refine HL4.mono ?_; rintro e w5 ⟨M', mA, g, r, k, rfl, hM, hno, hRO, _, _, hr, hk, hb5⟩))
  have hX6 := (hX4.go hb5).old (.cells #[Value.int IntKind.i64 (r : Int), Value.int IntKind.i64 (k : Int)] 28)
  have hr6 := (hr4.below hb5).below ((Below.refl w5.heap.size w5).alloc (Nat.le_refl _) (.cells #[Value.int IntKind.i64 (r : Int), Value.int IntKind.i64 (k : Int)] 28))
  have hRO6 := (hRO.old (.cells #[Value.int IntKind.i64 (r : Int), Value.int IntKind.i64 (k : Int)] 28)).reads
  generalize w5.alloc (.cells #[Value.int IntKind.i64 (r : Int), Value.int IntKind.i64 (k : Int)] 28) = w6 at hX6 hr6 hRO6 ⊢
  have HF := (mates_free (n := rkN (kpV v) n) mA (rkN (kpV v) n) w6 hRO6 (by omega)).mono (R' := fun e w' => ∃ A9 c9, e = .returned (.slice A9 (freeL (rkN (kpV v) n) M').length c9) ∧ Below w6.heap.size w6 w') (by
    rintro e w' ⟨u, rfl, ho⟩
    obtain ⟨A9, c9, rfl, _, _⟩ := ho.slice
    rw [natI_length]
    exact ⟨A9, c9, rfl, ho.2⟩)
  have HX6 := Lib.hid hX6
  have HM := Lib.hid (And.intro hM hno)
  have HR6 := Lib.hid hr6
  have HRO6 := Lib.hid hRO6
  clear hG4 hr3 hr4 hX4 HL4 c0 c1 hM hno hRO hb5 hr hk hX6 hr6 hRO6
  by_cases hall : ∀ a, a < rkN (kpV v) n → M' a ≠ none
  · have hf0 : freeL (rkN (kpV v) n) M' = [] := List.eq_nil_iff_forall_not_mem.2 fun a ha => by
      obtain ⟨h1, h2⟩ := mem_freeL.1 ha
      exact hall a h1 h2
    rw [hf0] at HF
    have HALL := Lib.hid hall
    have e0 := HX6.out.c0
    have e1 := HX6.out.c1
    clear hall hf0
    go_upto_region 9 with (go_at_call 108; (refine HF.mono ?_; rintro e w7 ⟨A9, c9, rfl, hb7⟩))
    have hX7 := HX6.out.go hb7
    have HN7 := HNO w7 (HR.out.below hX7.below)
    have x0 := hX7.c0
    have x1 := hX7.c1
    clear e0 e1 HNO HF
    go_upto_region 10 with (go_at_call 109; (refine HN7.mono ?_; rintro e w8 ⟨B, rfl, hB, hrow, hb8⟩))
    have hrow0 : RowI w8 3 B (rowL n (fA n (kpV v) M' 0)) := by rw [fA_zero]; exact hrow
    have hb68 : Below w6.heap.size w6 w8 := hb7.trans (hb8.mono hb7.size)
    have HRW := Lib.hid (HR6.out.below hb68)
    have HRM := Lib.hid (HRO6.out.below hb68)
    have HROW := Lib.hid hrow0
    have HB8 := Lib.hid (show Below w.heap.size w w8 from HX6.out.below.trans (hb68.mono HX6.out.below.size))
    have hBw : w.heap.size ≤ B := Nat.le_trans (HX6.out.below.trans (hb7.mono HX6.out.below.size)).size hB
    have hBl : w6.heap.size ≤ B := Nat.le_trans hb7.size hB
    have hRWB := HR6.out
    have HBL := Lib.hid (And.intro hb68 hBl)
    clear hX7 HN7 hrow hrow0 hb7 hb8 hb68 x0 x1 hRWB hB
    go_wp2_with fail
    go_loopw [50] (fun i wr => ∃ a : Nat, i = .int .i64 a ∧ a ≤ rkN (kpV v) n ∧ Hid (RowI wr 3 B (rowL n (fA n (kpV v) M' a))) ∧ Hid (Below w6.heap.size w6 wr)) (fun i _ => rkN (kpV v) n - (intOf i).toNat)
    case atStart => exact ⟨0, rfl, Nat.zero_le _, HROW, Lib.hid HBL.out.1⟩
    case round =>
      clear HROW
      obtain ⟨a, rfl, ha, hrow, hb⟩ := hrel
      by_cases hlt : a < rkN (kpV v) n
      · obtain ⟨b, hb2⟩ := Option.ne_none_iff_exists'.1 (HALL.out a hlt)
        have hbm := HM.out.1.lt (HM.out.1.symm hb2)
        obtain ⟨x, hx⟩ : ∃ x, (wasL n (kpV v))[a]? = some x := ⟨(wasL n (kpV v))[a]'(by rw [wasL_length]; exact hlt), by simp [wasL_length, hlt]⟩
        obtain ⟨y, hy⟩ : ∃ y, (wasL n (kpV v))[b]? = some y := ⟨(wasL n (kpV v))[b]'(by rw [wasL_length]; exact hbm), by simp [wasL_length, hbm]⟩
        have gx := was_mem (kpV v) hx
        have gy := was_mem (kpV v) hy
        have hly : liftM n (kpV v) M' x = some y := (liftM_some HM.out.1).2 ⟨gx.1, gx.2.1, gy.1, gy.2.1, by rw [gx.2.2, gy.2.2]; exact hb2⟩
        have hup := fA_succ hx hly
        obtain ⟨mb, mo, hmA, _, cm⟩ := (HRO6.out.below hb.out).int a _ (mateL_get M' hlt)
        rw [hb2] at cm
        simp only [encO] at cm
        obtain ⟨pb, po, hwA, _, cxa⟩ := (HR6.out.below hb.out).int a _ (natI_get hx)
        obtain ⟨pb2, po2, hwA2, _, cyb⟩ := (HR6.out.below hb.out).int b _ (natI_get hy)
        rw [hwA] at hwA2
        simp only [Option.some.injEq, Addr.mk.injEq, and_true] at hwA2
        obtain ⟨rfl, rfl⟩ := hwA2
        rw [hmA, hwA]
        have HMA := Lib.hid (And.intro hmA hwA)
        have cB := hrow.out.cell (rowL_get (f := fA n (kpV v) M' a) gx.1)
        have fB := hrow.out.frozen x
        have hrow2 := fun q => RowI.set (hrow.out.below (below_drewN0 (Below.refl wr.heap.size wr) q) hrow.out.lt) x (y : Int)
        rw [rowL_set, hup] at hrow2
        have HROW2 := Lib.hid hrow2
        have i1 : (a : Int) < ((rkN (kpV v) n : Nat) : Int) := by omega
        have i2 : (0 : Int) ≤ (a : Int) := by omega
        have i3 : (b : Int) < ((rkN (kpV v) n : Nat) : Int) := by omega
        have i4 : (0 : Int) ≤ (b : Int) := by omega
        have i5 : (x : Int) < (n : Int) := by omega
        have i6 : (0 : Int) ≤ (x : Int) := by omega
        clear hx hy gx gy hly hup hrow2 hb2 hmA hwA
        go_wp2_with fail
        (refine wp_region_rws [0, 0, 0, 0, 0, 0, 0, 0, 0, 0, 2] (by kernel_rfl) (by kernel_rfl) (by kernel_rfl) (fun _ _ d _ _ h => by cases d <;> exact h) ?_
         simp only [pickL, reduceIte, Nat.reduceEqDiff]
         repeat (go_big_quiet_step (fail))
         refine wpQuiet_nil ?_
         repeat (refine wpW_step ?_ ?_ ?_; rotate_left; focus (intro w1; go_simp; first | done | with_reducible rfl))
         refine wpW_nil ?_
         intro _ hw'
         obtain ⟨nq, hw''⟩ := hw'
         subst hw'')
        go_wp2_with fail
        exact ⟨⟨a + 1, by go_num, by omega, Lib.hid (HROW2.out nq), Lib.hid ((below_drewN0 hb.out nq).setCell (p := ⟨B, x, none⟩) hBl _)⟩, by simp [intOf]; omega⟩
      · obtain rfl : a = rkN (kpV v) n := by omega
        have hlf := lacks_lift (n := n) (v := v) (kp := kpV v) (E := adjE es) (fun x => rfl) (fun a b ha hb h => (keptL_adj HP.out (kpV v) ha hb).1 h) HM.out.1 HALL.out
        have hr9 := hrow.out
        rw [fA_end] at hr9
        have HL9 := Lib.hid (And.intro hlf hr9)
        clear hlf hr9 hrow hlt ha
        go_wp2_with fail
        go_ret2
        exact .inl ⟨_, B, rfl, HL9.out.1.1, HL9.out.1.2.1, HL9.out.1.2.2, HL9.out.2, hBw, HX6.out.below.trans (hb.out.mono HX6.out.below.size)⟩
  · obtain ⟨a, ha, hfa⟩ : ∃ a, a < rkN (kpV v) n ∧ M' a = none := Classical.byContradiction fun h => hall fun a ha hf => h ⟨a, ha, hf⟩
    have hnl := not_lacks hv (fun x => rfl) (right_gr HPK.out) (fun a b ha hb h => (keptL_adj HP.out (kpV v) ha hb).2 h) HM.out.1 HM.out.2 ha hfa
    have hpos : 0 < (freeL (rkN (kpV v) n) M').length := List.length_pos_of_mem (mem_freeL.2 ⟨ha, hfa⟩)
    generalize (freeL (rkN (kpV v) n) M').length = fl at HF hpos
    have d9 : decide ((0 : Int) < (fl : Int)) = true := decide_eq_true (by omega)
    have HNL := Lib.hid hnl
    clear hnl hall ha hfa
    go_wp2_with (go_at_call 108; (refine HF.mono ?_; rintro e w7 ⟨A9, c9, rfl, hb7⟩))
    go_ret2
    exact .inr ⟨HNL.out, rfl, HX6.out.below.trans (hb7.mono HX6.out.below.size)⟩
end Go.Proofs.Ytgddfmfiiodgbaa

/- Matchings of cycles and paths (no program in sight). -/
namespace Go.Proofs.Ytgddfmfiiodgbaa
set_option linter.unusedVariables false
set_option linter.unusedSimpArgs false

section
variable {n : Nat} {E : Nat → Nat → Prop} {M : Nat → Option Nat}

/-- One free vertex at most. -/
theorem size_one (hg : IsGr n E) (hM : IsMat n E M) {a : Nat} (h : ∀ x, x < n → M x = none → x = a) : sizeM n M = n / 2 := by
  have h2 := size_free hg hM
  have h5 : (freeL n M).length ≤ 1 := len_one (nodup_freeL n M) (a := a) fun x hx => h x (mem_freeL.1 hx).1 (mem_freeL.1 hx).2
  omega
/-- Round by k. -/
def sgm (n k v : Nat) : Nat := if k ≤ v then v - k else v + n - k
def tau (n k i : Nat) : Nat := if i + k < n then i + k else i + k - n
theorem sgm_lt {k v : Nat} (hk : k < n) (hv : v < n) : sgm n k v < n := by unfold sgm; split <;> omega
theorem tau_lt {k i : Nat} (hk : k < n) (hi : i < n) : tau n k i < n := by unfold tau; split <;> omega
theorem tau_sgm {k v : Nat} (hk : k < n) (hv : v < n) : tau n k (sgm n k v) = v := by unfold tau sgm; split <;> split <;> omega
theorem sgm_tau {k i : Nat} (hk : k < n) (hi : i < n) : sgm n k (tau n k i) = i := by unfold tau sgm; split <;> split <;> omega
def rotM (n k v : Nat) : Option Nat := if v < n then (evenM n (sgm n k v)).map (tau n k) else none
theorem tau_next {k i : Nat} (hk : k < n) (hi : i < n) : tau n k ((i + 1) % n) = (tau n k i + 1) % n := by
  have h1 : (i + 1) % n = if i + 1 < n then i + 1 else 0 := by
    split
    · exact Nat.mod_eq_of_lt (by omega)
    · rw [show i + 1 = n by omega, Nat.mod_self]
  have h2 : (tau n k i + 1) % n = if tau n k i + 1 < n then tau n k i + 1 else 0 := by
    have := tau_lt hk hi
    split
    · exact Nat.mod_eq_of_lt (by omega)
    · rw [show tau n k i + 1 = n by omega, Nat.mod_self]
  rw [h1, h2]
  unfold tau
  split <;> split <;> (try split) <;> (try split) <;> omega
theorem rot_mat (hg : IsGr n E) (hc : ∀ v, v < n → E v ((v + 1) % n)) {k : Nat} (hk : k < n) : IsMat n E (rotM n k) := by
  have hg' : IsGr n (fun i j => i < n ∧ j < n ∧ E (tau n k i) (tau n k j)) := ⟨fun h => ⟨h.2.1, h.1, hg.symm h.2.2⟩, fun h => h.1, fun v h => hg.irr _ h.2.2⟩
  have he := evenM_mat hg' fun i hi => ⟨hi, Nat.mod_lt _ (by omega), by rw [tau_next hk hi]; exact hc _ (tau_lt hk hi)⟩
  have hval : ∀ v w, rotM n k v = some w → v < n ∧ w < n ∧ evenM n (sgm n k v) = some (sgm n k w) := by
    intro v w h
    unfold rotM at h
    by_cases hv : v < n
    · rw [if_pos hv] at h
      cases hm : evenM n (sgm n k v) with
      | none => rw [hm] at h; cases h
      | some j =>
        rw [hm] at h
        simp at h
        have hj := he.lt (he.symm hm)
        subst h
        exact ⟨hv, tau_lt hk hj, by rw [sgm_tau hk hj]⟩
    · rw [if_neg hv] at h; cases h
  refine ⟨fun {v w} h => ?_, fun {v w} h => ?_, fun {v w} h => (hval v w h).1⟩
  · obtain ⟨a, b, c⟩ := hval v w h
    unfold rotM
    rw [if_pos b, he.symm c]
    simp [tau_sgm hk a]
  · obtain ⟨a, b, c⟩ := hval v w h
    have := (he.edge c).2.2
    rwa [tau_sgm hk a, tau_sgm hk b] at this
theorem rot_free {k v : Nat} (hk : k < n) (hv : v < n) (h : rotM n k v = none) : v = tau n k (n - 1) := by
  unfold rotM at h
  rw [if_pos hv] at h
  have h1 : evenM n (sgm n k v) = none := by cases hm : evenM n (sgm n k v) with
    | none => rfl
    | some x => rw [hm] at h; cases h
  have h2 := sgm_lt hk hv
  have h3 : sgm n k v = n - 1 := by
    unfold evenM at h1
    by_cases h4 : sgm n k v % 2 = 0
    · rw [if_pos h4] at h1
      by_cases h5 : sgm n k v + 1 < n
      · rw [if_pos h5] at h1; cases h1
      · omega
    · rw [if_neg h4, if_pos h2] at h1; cases h1
  rw [← h3, tau_sgm hk hv]
theorem rot_size (hg : IsGr n E) (hc : ∀ v, v < n → E v ((v + 1) % n)) {k : Nat} (hk : k < n) : sizeM n (rotM n k) = n / 2 := size_one hg (rot_mat hg hc hk) fun x hx h => rot_free hk hx h
theorem rot_has {k : Nat} (hk : k < n) (hn : 2 ≤ n) : rotM n k k = some ((k + 1) % n) := by
  have h1 : sgm n k k = 0 := by simp [sgm]
  have h2 : evenM n 0 = some 1 := by unfold evenM; rw [if_pos rfl, if_pos (by omega)]
  have h3 : (k + 1) % n = if k + 1 < n then k + 1 else 0 := by
    split
    · exact Nat.mod_eq_of_lt (by omega)
    · rw [show k + 1 = n by omega, Nat.mod_self]
  unfold rotM
  rw [if_pos hk, h1, h2, h3]
  simp only [Option.map_some, tau]
  congr 1
  split <;> split <;> omega
theorem rot_not {k : Nat} (hk : k < n) (hn : 3 ≤ n) : rotM n ((k + 1) % n) k ≠ some ((k + 1) % n) := by
  have h3 : (k + 1) % n = if k + 1 < n then k + 1 else 0 := by
    split
    · exact Nat.mod_eq_of_lt (by omega)
    · rw [show k + 1 = n by omega, Nat.mod_self]
  have hlt : (k + 1) % n < n := Nat.mod_lt _ (by omega)
  have h1 : sgm n ((k + 1) % n) k = n - 1 := by rw [h3]; unfold sgm; split <;> split <;> omega
  intro h
  unfold rotM at h
  rw [if_pos hk, h1] at h
  cases hm : evenM n (n - 1) with
  | none => rw [hm] at h; cases h
  | some j =>
    have hj : j = n - 2 := by
      unfold evenM at hm
      by_cases h4 : (n - 1) % 2 = 0
      · rw [if_pos h4, if_neg (by omega)] at hm; cases hm
      · rw [if_neg h4, if_pos (by omega)] at hm; cases hm; omega
    rw [hm] at h
    simp only [Option.map_some, Option.some.injEq] at h
    rw [hj] at h
    generalize (k + 1) % n = q at h hlt
    unfold tau at h
    split at h <;> omega

/-- A path's own matchings. -/
def oddM (n v : Nat) : Option Nat := if v = 0 then none else if v % 2 = 1 then (if v + 1 < n then some (v + 1) else none) else (if v < n then some (v - 1) else none)
theorem path_even_mat (hg : IsGr n E) (hc : ∀ v, v + 1 < n → E v (v + 1)) : IsMat n E (evenM n) := by
  have hval : ∀ v w, evenM n v = some w → (v % 2 = 0 ∧ w = v + 1 ∧ v + 1 < n) ∨ (v % 2 = 1 ∧ v = w + 1 ∧ v < n) := by
    intro v w h
    unfold evenM at h
    by_cases h1 : v % 2 = 0
    · rw [if_pos h1] at h
      by_cases h2 : v + 1 < n
      · rw [if_pos h2] at h; cases h; exact .inl ⟨h1, rfl, h2⟩
      · rw [if_neg h2] at h; cases h
    · rw [if_neg h1] at h
      by_cases h2 : v < n
      · rw [if_pos h2] at h; cases h; exact .inr ⟨by omega, by omega, h2⟩
      · rw [if_neg h2] at h; cases h
  refine ⟨fun {v w} h => ?_, fun {v w} h => ?_, fun {v w} h => ?_⟩
  · rcases hval v w h with ⟨h1, rfl, h2⟩ | ⟨h1, rfl, h2⟩
    · unfold evenM; rw [if_neg (by omega), if_pos h2]; rfl
    · unfold evenM; rw [if_pos (by omega), if_pos h2]
  · rcases hval v w h with ⟨h1, rfl, h2⟩ | ⟨h1, rfl, h2⟩
    · exact hc v h2
    · exact hg.symm (hc w h2)
  · rcases hval v w h with ⟨h1, rfl, h2⟩ | ⟨h1, rfl, h2⟩ <;> omega
theorem path_odd_mat (hg : IsGr n E) (hc : ∀ v, v + 1 < n → E v (v + 1)) : IsMat n E (oddM n) := by
  have hval : ∀ v w, oddM n v = some w → (v % 2 = 1 ∧ w = v + 1 ∧ v + 1 < n) ∨ (v % 2 = 0 ∧ v = w + 1 ∧ v < n) := by
    intro v w h
    unfold oddM at h
    by_cases h0 : v = 0
    · rw [if_pos h0] at h; cases h
    · rw [if_neg h0] at h
      by_cases h1 : v % 2 = 1
      · rw [if_pos h1] at h
        by_cases h2 : v + 1 < n
        · rw [if_pos h2] at h; cases h; exact .inl ⟨h1, rfl, h2⟩
        · rw [if_neg h2] at h; cases h
      · rw [if_neg h1] at h
        by_cases h2 : v < n
        · rw [if_pos h2] at h; cases h; exact .inr ⟨by omega, by omega, h2⟩
        · rw [if_neg h2] at h; cases h
  refine ⟨fun {v w} h => ?_, fun {v w} h => ?_, fun {v w} h => ?_⟩
  · rcases hval v w h with ⟨h1, rfl, h2⟩ | ⟨h1, rfl, h2⟩
    · unfold oddM; rw [if_neg (by omega), if_neg (by omega), if_pos h2]; rfl
    · unfold oddM; rw [if_neg (by omega), if_pos (by omega), if_pos h2]
  · rcases hval v w h with ⟨h1, rfl, h2⟩ | ⟨h1, rfl, h2⟩
    · exact hc v h2
    · exact hg.symm (hc w h2)
  · rcases hval v w h with ⟨h1, rfl, h2⟩ | ⟨h1, rfl, h2⟩ <;> omega
theorem path_even_size (hg : IsGr n E) (hc : ∀ v, v + 1 < n → E v (v + 1)) : sizeM n (evenM n) = n / 2 := size_one hg (path_even_mat hg hc) (a := n - 1) fun x hx h => by
  unfold evenM at h
  by_cases h8 : x % 2 = 0
  · rw [if_pos h8] at h
    by_cases h9 : x + 1 < n
    · rw [if_pos h9] at h; cases h
    · omega
  · rw [if_neg h8, if_pos hx] at h; cases h
theorem path_odd_size (hg : IsGr n E) (hc : ∀ v, v + 1 < n → E v (v + 1)) (ho : n % 2 = 1) : sizeM n (oddM n) = n / 2 := size_one hg (path_odd_mat hg hc) (a := 0) fun x hx h => by
  unfold oddM at h
  by_cases h0 : x = 0
  · exact h0
  · rw [if_neg h0] at h
    by_cases h8 : x % 2 = 1
    · rw [if_pos h8] at h
      by_cases h9 : x + 1 < n
      · rw [if_pos h9] at h; cases h
      · omega
    · rw [if_neg h8, if_pos hx] at h; cases h
/-- A path of an even number of vertices has one perfect matching alone. -/
theorem path_perfect (hg : IsGr n E) (hc : ∀ u v, E u v → v = u + 1 ∨ u = v + 1) (hM : IsMat n E M) (he : n % 2 = 0) (hs : sizeM n M = n / 2) : ∀ i, 2 * i < n → M (2 * i) = some (2 * i + 1) := by
  have h2 := size_free hg hM
  have hp : ∀ v, v < n → M v ≠ none := fun v hv h => by
    have h3 : v ∈ freeL n M := mem_freeL.2 ⟨hv, h⟩
    have h4 : (freeL n M).length = 0 := by omega
    rw [List.length_eq_zero_iff] at h4
    rw [h4] at h3; simp at h3
  intro i
  induction i with
  | zero =>
    intro h
    obtain ⟨w, hw⟩ := Option.ne_none_iff_exists'.1 (hp 0 (by omega))
    rcases hc _ _ (hM.edge hw) with e | e
    · rw [Nat.mul_zero, hw, e]
    · omega
  | succ i ih =>
    intro h
    obtain ⟨w, hw⟩ := Option.ne_none_iff_exists'.1 (hp (2 * (i + 1)) h)
    rcases hc _ _ (hM.edge hw) with e | e
    · rw [hw, e]
    · have h1 := ih (by omega)
      have h3 := hM.symm hw
      have h4 := hM.symm h1
      have e2 : w = 2 * i + 1 := by omega
      rw [e2, h4] at h3
      simp at h3; omega
end
end Go.Proofs.Ytgddfmfiiodgbaa

/- Odd cycles, and ears of an odd number of edges (no program in sight). -/
namespace Go.Proofs.Ytgddfmfiiodgbaa
set_option linter.unusedVariables false
set_option linter.unusedSimpArgs false

section
variable {n : Nat} {E E' : Nat → Nat → Prop}

theorem cyc_crit (hg : IsGr n E) (hc : ∀ v, v < n → E v ((v + 1) % n)) (ho : n % 2 = 1) : CritG n E := by
  refine ⟨by omega, fun v hv => ?_⟩
  have hk : (v + 1) % n < n := Nat.mod_lt _ (by omega)
  have hM := rot_mat hg hc hk
  have ht : tau n ((v + 1) % n) (n - 1) = v := by
    unfold tau
    by_cases h : v + 1 = n
    · rw [h, Nat.mod_self]; split <;> omega
    · rw [Nat.mod_eq_of_lt (show v + 1 < n by omega)]; split <;> omega
  have hf : ∀ x, x < n → rotM n ((v + 1) % n) x = none → x = v := fun x hx h => (rot_free hk hx h).trans ht
  refine ⟨_, hM, ?_, fun u hu hne h => hne (hf u hu h)⟩
  have hs := size_free hg hM
  have h2 := rot_size hg hc hk
  obtain ⟨x, l, hx⟩ := List.exists_cons_of_length_pos (show 0 < (freeL n (rotM n ((v + 1) % n))).length by omega)
  obtain ⟨h3, h4⟩ := mem_freeL.1 (show x ∈ freeL n (rotM n ((v + 1) % n)) by rw [hx]; simp)
  have e := hf x h3 h4
  rw [e] at h4
  exact h4

theorem pair_mat (hg : IsGr n E) {M : Nat → Option Nat} {v w : Nat} (hM : IsMat n E M) (hE : E v w) (hv : M v = none) (hw : M w = none) :
    ∃ M', IsMat n E M' ∧ (∀ x, x ≠ v → x ≠ w → M' x = M x) ∧ M' v ≠ none ∧ M' w ≠ none := by
  refine ⟨_, (pair_size hg hM hE hv hw).1, fun x h1 h2 => ?_, ?_, ?_⟩
  · simp [upd, h1, h2]
  · by_cases h : v = w
    · simp [upd, h]
    · simp [upd, h]
  · simp [upd]

theorem pairs_up (hg : IsGr n E) (s : Nat) : ∀ (k : Nat) (M : Nat → Option Nat), IsMat n E M → (∀ j, j < 2 * k → M (s + j) = none) → (∀ t, t < k → E (s + 2 * t) (s + 2 * t + 1)) →
    ∃ M', IsMat n E M' ∧ (∀ x, (x < s ∨ s + 2 * k ≤ x) → M' x = M x) ∧ ∀ x, s ≤ x → x < s + 2 * k → M' x ≠ none := by
  intro k
  induction k with
  | zero => intro M hM _ _; exact ⟨M, hM, fun _ _ => rfl, fun x h1 h2 => by omega⟩
  | succ k ih =>
    intro M hM h0 hE
    obtain ⟨M1, a, b, c⟩ := ih M hM (fun j hj => h0 j (by omega)) (fun t ht => hE t (by omega))
    obtain ⟨M2, d, e, f, g⟩ := pair_mat hg a (hE k (by omega)) ((b _ (.inr (by omega))).trans (h0 (2 * k) (by omega))) ((b _ (.inr (by omega))).trans (h0 (2 * k + 1) (by omega)))
    refine ⟨M2, d, fun x hx => (e x (by omega) (by omega)).trans (b x (by omega)), fun x h1 h2 => ?_⟩
    by_cases e1 : x = s + 2 * k
    · rw [e1]; exact f
    · by_cases e2 : x = s + 2 * k + 1
      · rw [e2]; exact g
      · rw [e x e1 e2]; exact c x h1 (by omega)

/-- An ear of an odd number of edges. -/
theorem ear_crit {m a b : Nat} (hg : IsGr (n + 2 * m) E') (hc : CritG n E) (hs : ∀ u v, E u v → E' u v) (ha : a < n) (hb : b < n) (hm : 0 < m) (h0 : E' a n) (hp : ∀ j, j + 1 < 2 * m → E' (n + j) (n + j + 1)) (h1 : E' (n + 2 * m - 1) b) : CritG (n + 2 * m) E' := by
  have up : ∀ {M}, IsMat n E M → IsMat (n + 2 * m) E' M := fun h => ⟨h.symm, fun k => hs _ _ (h.edge k), fun k => by have := h.lt k; omega⟩
  have far : ∀ {M x}, IsMat n E M → n ≤ x → M x = none := fun {M x} h hx => by
    cases hm : M x with
    | none => rfl
    | some y => have := h.lt hm; omega
  refine ⟨by omega, fun v hv => ?_⟩
  by_cases hvn : v < n
  · obtain ⟨M, k1, k2, k3⟩ := hc.2 v hvn
    obtain ⟨M1, a1, a2, a3⟩ := pairs_up hg n m M (up k1) (fun j _ => far k1 (by omega)) (fun t ht => hp (2 * t) (by omega))
    refine ⟨M1, a1, (a2 v (.inl hvn)).trans k2, fun u hu hne => ?_⟩
    by_cases hun : u < n
    · rw [a2 u (.inl hun)]; exact k3 u hun hne
    · exact a3 u (by omega) hu
  · obtain ⟨i, rfl⟩ : ∃ i, v = n + i := ⟨v - n, by omega⟩
    by_cases hi : i % 2 = 0
    · obtain ⟨M, k1, k2, k3⟩ := hc.2 b hb
      obtain ⟨M1, a1, a2, a3, a4⟩ := pair_mat hg (up k1) h1 (far k1 (by omega)) k2
      obtain ⟨M2, b1, b2, b3⟩ := pairs_up hg n (i / 2) M1 a1 (fun j _ => by rw [a2 _ (by omega) (by omega)]; exact far k1 (by omega)) (fun t ht => hp (2 * t) (by omega))
      obtain ⟨M3, c1, c2, c3⟩ := pairs_up hg (n + i + 1) ((2 * m - i - 2) / 2) M2 b1 (fun j _ => by rw [b2 _ (by omega), a2 _ (by omega) (by omega)]; exact far k1 (by omega)) (fun t ht => by
        have := hp (i + 1 + 2 * t) (by omega)
        rw [show n + (i + 1 + 2 * t) = n + i + 1 + 2 * t by omega] at this
        exact this)
      refine ⟨M3, c1, ?_, fun u hu hne => ?_⟩
      · rw [c2 _ (by omega), b2 _ (by omega), a2 _ (by omega) (by omega)]; exact far k1 (by omega)
      · by_cases hun : u < n
        · rw [c2 _ (by omega), b2 _ (by omega)]
          by_cases hub : u = b
          · rw [hub]; exact a4
          · rw [a2 _ (by omega) hub]; exact k3 u hun hub
        · by_cases hui : u < n + i
          · rw [c2 _ (by omega)]; exact b3 u (by omega) (by omega)
          · by_cases hul : u = n + 2 * m - 1
            · rw [c2 _ (by omega), b2 _ (by omega), hul]; exact a3
            · exact c3 u (by omega) (by omega)
    · obtain ⟨M, k1, k2, k3⟩ := hc.2 a ha
      obtain ⟨M1, a1, a2, a3, a4⟩ := pair_mat hg (up k1) h0 k2 (far k1 (by omega))
      obtain ⟨M2, b1, b2, b3⟩ := pairs_up hg (n + 1) ((i - 1) / 2) M1 a1 (fun j _ => by rw [a2 _ (by omega) (by omega)]; exact far k1 (by omega)) (fun t ht => by
        have := hp (1 + 2 * t) (by omega)
        rw [show n + (1 + 2 * t) = n + 1 + 2 * t by omega] at this
        exact this)
      obtain ⟨M3, c1, c2, c3⟩ := pairs_up hg (n + i + 1) ((2 * m - 1 - i) / 2) M2 b1 (fun j _ => by rw [b2 _ (by omega), a2 _ (by omega) (by omega)]; exact far k1 (by omega)) (fun t ht => by
        have := hp (i + 1 + 2 * t) (by omega)
        rw [show n + (i + 1 + 2 * t) = n + i + 1 + 2 * t by omega] at this
        exact this)
      refine ⟨M3, c1, ?_, fun u hu hne => ?_⟩
      · rw [c2 _ (by omega), b2 _ (by omega), a2 _ (by omega) (by omega)]; exact far k1 (by omega)
      · by_cases hun : u < n
        · rw [c2 _ (by omega), b2 _ (by omega)]
          by_cases hua : u = a
          · rw [hua]; exact a3
          · rw [a2 _ hua (by omega)]; exact k3 u hun hua
        · by_cases hu0 : u = n
          · rw [c2 _ (by omega), b2 _ (by omega), hu0]; exact a4
          · by_cases hui : u < n + i
            · rw [c2 _ (by omega)]; exact b3 u (by omega) (by omega)
            · exact c3 u (by omega) (by omega)
end
end Go.Proofs.Ytgddfmfiiodgbaa

/- The law's first line: critical is awake; CriticalRefuses, walked. -/
namespace Go.Proofs.Ytgddfmfiiodgbaa
open Go Go.RowKit
set_option maxRecDepth 100000
set_option linter.unusedVariables false
set_option linter.unusedSimpArgs false

open Classical in
theorem critB_iff {n : Nat} {es : List (Int × Int)} : critB n es = true ↔ RightP n es ∧ CritG n (adjE es) := by
  unfold critB
  rw [decide_eq_true_iff, Int.toNat_natCast]
theorem critB_of {n : Nat} {es : List (Int × Int)} (hP : RightP n es) (h : CritG n (adjE es)) : critB n es = true := critB_iff.2 ⟨hP, h⟩
theorem critB_not {n : Nat} {es : List (Int × Int)} (h : RightP n es → ¬ CritG n (adjE es)) : critB n es = false := by
  rw [Bool.eq_false_iff]
  intro hc
  obtain ⟨a, b⟩ := critB_iff.1 hc
  exact h a b
theorem tri_crit : CritG 3 (adjE triE) := by
  have hg : IsGr 3 (adjE triE) := right_gr (n := 3) ((right_iff _ _).1 tri_right)
  refine cyc_crit hg (fun v hv => ?_) rfl
  match v, hv with
  | 0, _ => exact .inr (by decide)
  | 1, _ => exact .inr (by decide)
  | 2, _ => exact .inl (by decide)
theorem tri_mate {M : Nat → Option Nat} (hM : IsMat 3 (adjE triE) M) (h1 : M 1 = none) (h0 : M 0 ≠ none) : M 0 = some 2 := by
  obtain ⟨u, hu⟩ := Option.ne_none_iff_exists'.1 h0
  have hlt := hM.lt (hM.symm hu)
  have hne : u ≠ 0 := fun e => by
    have hg : IsGr 3 (adjE triE) := right_gr (n := 3) ((right_iff _ _).1 tri_right)
    exact hg.irr 0 (by have := hM.edge hu; rw [e] at this; exact this)
  have hn1 : u ≠ 1 := fun e => by have := hM.symm hu; rw [e, h1] at this; cases this
  rw [hu]
  congr 1
  omega

set_option maxHeartbeats 2000000 in
theorem awake15 (w : World) : Calls Try.prog 54 #[] w fun e w' => e = .returned (.bool true) ∧ Below w.heap.size w w' := by
  have hP3 : RightP ((3 : Nat) : Int) triE := (right_iff _ _).1 tri_right
  have HMI := fun (A : Option Addr) (W : World) (h : Reads W A (pcells triE)) => (show Calls Try.prog 53 #[.agg #[.int .i64 3, .slice A 3 3], .int .i64 1] W (fun e w' => ∃ B, e = .returned (.tuple #[.slice (some ⟨B, 0, none⟩) 3 3, .int .i64 0]) ∧ w'.cell? ⟨B, 0, none⟩ = some (.int .i64 2) ∧ B < w'.heap.size ∧ Below W.heap.size W w') from (missing_any (n := 3) (v := 1) hP3 (by omega) A 3 W h (by decide)).mono (by
    rintro e w' (⟨M, B, rfl, hM, h1, h2, hrow, hB, hb⟩ | ⟨hno, _⟩)
    · refine ⟨B, rfl, ?_, hrow.lt, hb⟩
      have h0 := tri_mate hM h1 (h2 0 (by omega) (by omega))
      have := hrow.cell (mateL_get M (show 0 < 3 by omega))
      rw [h0] at this
      exact this
    · exact absurd (tri_crit.2 1 (by omega)) hno))
  have HI1 := fun (A : Option Addr) (W : World) (h : Reads W A (pcells triE)) => (show Calls Try.prog 55 #[.agg #[.int .i64 3, .slice A 3 3]] W (fun e w' => e = .returned (.bool true) ∧ Below W.heap.size W w') from by
    have h9 := is_any ((3 : Nat) : Int) triE A 3 W h (by decide) (by decide)
    rw [critB_of hP3 tri_crit] at h9
    exact h9)
  have HI2 := fun (W : World) => (show Calls Try.prog 55 #[.agg #[.int .i64 0, .slice none 0 0]] W (fun e w' => e = .returned (.bool false) ∧ Below W.heap.size W w') from by
    have h9 := is_any ((0 : Nat) : Int) [] none 0 W (.inl rfl) (by decide) (by decide)
    rw [critB_not (fun _ h => absurd h.1 (by omega))] at h9
    exact h9)
  go_enter Try.func54, Try.ntmps54
  go_upto_region 2 with fail
  obtain ⟨w1, hw1⟩ : ∃ w1, w1 = (w.alloc (Obj.cells #[Value.int IntKind.i64 0, Value.int IntKind.i64 1, Value.int IntKind.i64 0, Value.int IntKind.i64 2, Value.int IntKind.i64 1, Value.int IntKind.i64 2] 49)).alloc (Obj.cells #[Value.int IntKind.i64 3, Value.slice (some { block := w.heap.size, off := 0 }) 3 3] 25) := ⟨_, rfl⟩
  rw [← hw1]
  have hb1 : Below w.heap.size w w1 := by rw [hw1]; exact ((Below.refl _ _).alloc (Nat.le_refl _) _).alloc (by simp) _
  have hr1 : Reads w1 (some ⟨w.heap.size, 0, none⟩) (pcells triE) := by
    rw [hw1]
    exact reads_blk (T := 49) (heap_old (heap_alloc_new _ _))
  have h1 : w1.heap[w.heap.size + 1]? = some (.cells #[Value.int IntKind.i64 3, Value.slice (some { block := w.heap.size, off := 0 }) 3 3] 25 (0, 0)) := by
    rw [hw1]
    have := heap_alloc_new (w.alloc (Obj.cells #[Value.int IntKind.i64 0, Value.int IntKind.i64 1, Value.int IntKind.i64 0, Value.int IntKind.i64 2, Value.int IntKind.i64 1, Value.int IntKind.i64 2] 49)) (Obj.cells #[Value.int IntKind.i64 3, Value.slice (some { block := w.heap.size, off := 0 }) 3 3] 25)
    rw [World.size_alloc] at this
    exact this
  have c0 := blkc0 h1 0 _ rfl
  have c1 := blkc0 h1 1 _ rfl
  have H1 := Lib.hid h1
  have HB1 := Lib.hid hb1
  have HR1 := Lib.hid hr1
  have hM1 := HMI _ w1 hr1
  clear hw1 hb1 h1 hr1 HMI
  go_upto_region 3 with (go_at_call 53; (refine hM1.mono ?_; rintro e w2 ⟨B, rfl, hcB, hBl, hb2⟩))
  have h2 := (hb2.block _ (heap_lt0 H1.out)).trans H1.out
  have d0 := blkc0 h2 0 _ rfl
  have d1 := blkc0 h2 1 _ rfl
  clear h2 c0 c1
  go_wp2_with (first
    | (go_at_call 55; (with_reducible refine (HI1 _ _ (HR1.out.below hb2)).mono ?_); rintro e w3 ⟨rfl, hb3⟩; have hcB3 := (hb3.cell (p := ⟨B, 0, none⟩) hBl).trans hcB)
    | (go_at_call 55; (with_reducible refine (HI2 _).mono ?_); rintro e w4 ⟨rfl, hb4⟩; have hcB4 := (hb4.cell (p := ⟨B, 0, none⟩) (Nat.lt_of_lt_of_le hBl hb3.size)).trans hcB3))
  go_ret
  exact ⟨rfl, HB1.out.trans ((hb2.trans ((hb3.trans (hb4.mono hb3.size)).mono hb2.size)).mono HB1.out.size)⟩
end Go.Proofs.Ytgddfmfiiodgbaa
