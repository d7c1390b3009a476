/- Walk of the reference's Table: how many edges a largest matching within each set of vertices has. -/
import Derived.Test.YtgddfmfiiodgbaaU33
import Derived.Test.YtgddfmfiiodgbaaU34
import Derived.Test.YtgddfmfiiodgbaaU30
import Derived.Test.YtgddfmfiiodgbaaU25
import Derived.Test.YtgddfmfiiodgbaaU31
namespace Go.Proofs.Ytgddfmfiiodgbaa
open Go Go.RowKit
set_option maxRecDepth 100000
set_option linter.unusedVariables false
set_option linter.unusedSimpArgs false

/-- The neighbours as bits, of so many edges. -/
def NbI (n : Nat) (es : List (Int × Int)) (k : Nat) (f : Nat → Nat) : Prop := (∀ v, f v < 2 ^ n) ∧ ∀ v u, (f v).testBit u = true ↔ adjE (es.take k) v u
theorem NbI.zero (n : Nat) (es : List (Int × Int)) : NbI n es 0 (fun _ => 0) := ⟨fun v => Nat.two_pow_pos n, fun v u => by simp [adjE]⟩
theorem NbI.succ {n : Nat} {es : List (Int × Int)} {k : Nat} {f : Nat → Nat} (h : NbI n es k f) {a b : Nat} (he : es[k]? = some ((a : Int), (b : Int))) (hab : a < b) (hb : b < n) :
    NbI n es (k + 1) (upd (upd f a (f a ||| 2 ^ b)) b (upd f a (f a ||| 2 ^ b) b ||| 2 ^ a)) := by
  have hpa : 2 ^ a < 2 ^ n := Nat.pow_lt_pow_right (by omega) (by omega)
  have hpb : 2 ^ b < 2 ^ n := Nat.pow_lt_pow_right (by omega) (by omega)
  refine ⟨fun v => ?_, fun v u => ?_⟩
  · unfold upd
    by_cases h1 : v = b
    · rw [if_pos h1, if_neg (by omega)]; exact Nat.or_lt_two_pow (h.1 b) hpa
    · rw [if_neg h1]
      by_cases h2 : v = a
      · rw [if_pos h2]; exact Nat.or_lt_two_pow (h.1 a) hpb
      · rw [if_neg h2]; exact h.1 v
  · have h1 : adjE (es.take (k + 1)) v u ↔ adjE (es.take k) v u ∨ (v = a ∧ u = b) ∨ (v = b ∧ u = a) := by
      rw [take_one es k _ he]
      unfold adjE
      simp only [List.mem_append, List.mem_singleton, Prod.mk.injEq]
      constructor
      · rintro ((h | ⟨h1, h2⟩) | (h | ⟨h1, h2⟩))
        · exact .inl (.inl h)
        · exact .inr (.inr ⟨by omega, by omega⟩)
        · exact .inl (.inr h)
        · exact .inr (.inl ⟨by omega, by omega⟩)
      · rintro ((h | h) | ⟨h1, h2⟩ | ⟨h1, h2⟩)
        · exact .inl (.inl h)
        · exact .inr (.inl h)
        · exact .inr (.inr ⟨by omega, by omega⟩)
        · exact .inl (.inr ⟨by omega, by omega⟩)
    rw [h1, ← h.2]
    unfold upd
    by_cases g1 : v = b
    · rw [if_pos g1, if_neg (show ¬ b = a by omega), Nat.testBit_or, Nat.testBit_two_pow, g1]
      have : ¬ b = a := by omega
      simp [this]
      exact or_congr Iff.rfl eq_comm
    · rw [if_neg g1]
      by_cases g2 : v = a
      · rw [if_pos g2, Nat.testBit_or, Nat.testBit_two_pow, g2]
        have : ¬ a = b := by omega
        simp [this]
        exact or_congr Iff.rfl eq_comm
      · rw [if_neg g2]
        simp [g1, g2]

/-- What holds of Table's world. -/
structure TbW (w : World) (n : Nat) (es : List (Int × Int)) (A : Option Addr) (c bn : Nat) (wr : World) (f : Nat → Nat) : Prop where
  box : Box2 w w.heap.size (.int .i64 (n : Int)) (.slice A es.length c) 25 wr
  row : RowI wr 3 bn (natL n f)
  lo : w.heap.size < bn
theorem TbW.set {w : World} {n : Nat} {es : List (Int × Int)} {A : Option Addr} {c bn : Nat} {wr : World} {f : Nat → Nat} (h : TbW w n es A c bn wr f) (v x : Nat) : TbW w n es A c bn (wr.setCell ⟨bn, v, none⟩ (.int .i64 (x : Int))) (upd f v x) :=
  ⟨⟨heap_far h.box.blk (by have := h.lo; show w.heap.size ≠ bn; omega) _, h.box.below.setCell (p := ⟨bn, v, none⟩) (Nat.le_of_lt h.lo) _⟩, by rw [← natL_set f v x _ rfl]; exact h.row.set v _, h.lo⟩
theorem TbW.drewN {w : World} {n : Nat} {es : List (Int × Int)} {A : Option Addr} {c bn : Nat} {wr : World} {f : Nat → Nat} (h : TbW w n es A c bn wr f) (q : Nat) : TbW w n es A c bn (wr.drewN q) f := ⟨h.box.drewN q, h.row, h.lo⟩

theorem IsMx.le {n : Nat} {E : Nat → Nat → Prop} {p : Nat → Bool} {k : Nat} (hg : IsGr n E) (h : IsMx n E p k) : k ≤ n := by
  obtain ⟨⟨M, a, _, c⟩, _⟩ := h
  have := size_free hg a
  omega
/-- .. and of the table's. -/
structure Tb2 (w : World) (n : Nat) (es : List (Int × Int)) (A : Option Addr) (c bn : Nat) (f : Nat → Nat) (bt N : Nat) (wr : World) (t : Nat → Nat) : Prop where
  one : TbW w n es A c bn wr f
  row2 : RowI wr 3 bt (natL N t)
  lo2 : bn < bt
theorem Tb2.set {w : World} {n : Nat} {es : List (Int × Int)} {A : Option Addr} {c bn bt N : Nat} {wr : World} {f t : Nat → Nat} (h : Tb2 w n es A c bn f bt N wr t) (v x : Nat) : Tb2 w n es A c bn f bt N (wr.setCell ⟨bt, v, none⟩ (.int .i64 (x : Int))) (upd t v x) := by
  have h1 := h.lo2
  have h2 := h.one.lo
  exact ⟨⟨⟨heap_far h.one.box.blk (by show w.heap.size ≠ bt; omega) _, h.one.box.below.setCell (p := ⟨bt, v, none⟩) (by show w.heap.size ≤ bt; omega) _⟩, h.one.row.far (by show bn ≠ bt; omega) _, h2⟩, by rw [← natL_set t v x _ rfl]; exact h.row2.set v _, h1⟩
theorem Tb2.drewN {w : World} {n : Nat} {es : List (Int × Int)} {A : Option Addr} {c bn bt N : Nat} {wr : World} {f t : Nat → Nat} (h : Tb2 w n es A c bn f bt N wr t) (q : Nat) : Tb2 w n es A c bn f bt N (wr.drewN q) t := ⟨h.one.drewN q, h.row2, h.lo2⟩
theorem test_bit {s : Nat} (v : Nat) (hs : s < 2 ^ 62) {b : Bool} (h : s.testBit v = b) : bits BinOp.and IntKind.i64 ((s : Int) / 2 ^ v) 1 = if b = true then 1 else 0 := by rw [bit_test s v hs, h]

set_option maxHeartbeats 4000000 in
theorem table_any {n : Nat} {es : List (Int × Int)} (hP : RightP n es) (hn : n ≤ 20) (A : Option Addr) (c : Nat) (w : World) (hr : Reads w A (pcells es)) (hc : es.length ≤ c) :
    Calls Try.prog 96 #[.agg #[.int .i64 (n : Int), .slice A es.length c]] w fun e w' => ∃ (B : Nat) (t : Nat → Nat), e = .returned (.slice (some ⟨B, 0, none⟩) (2 ^ n) (2 ^ n)) ∧ w.heap.size ≤ B ∧ RowI w' 3 B (natL (2 ^ n) t) ∧ (∀ s, s < 2 ^ n → IsMx n (adjE es) (fun v => s.testBit v) (t s)) ∧ Below w.heap.size w w' := by
  have hm : es.length ≤ 2000000 := by have := hP.len; omega
  have hmk := fun (N : Nat) (hN : N ≤ 4000000) (W : World) => run_make_row' (P := Try.prog) 22 3 (.int .i64 0) 8 Try.underlying22 (by kernel_rfl) rfl .i64 .i64 N (by omega) (by omega) W
  have hmk1 := hmk n (by omega)
  have HR := Lib.hid hr
  have HP := Lib.hid hP
  clear hr hP
  go_enter Try.func96, Try.ntmps96
  go_upto_region 1 with fail
  (have hX1 := Box2.new (Below.refl w.heap.size w) (Value.int IntKind.i64 (n : Int)) (Value.slice A es.length c) 25
   generalize w.alloc (Obj.cells #[Value.int IntKind.i64 (n : Int), Value.slice A es.length c] 25) = w1 at hX1 ⊢
   have c0 := hX1.c0
   have c1 := hX1.c1)
  go_upto_region 3 with fail
  have hX2 := hX1.old (Obj.cells (madeCells #[Value.int .i64 0] n) 3)
  have hrow : RowI (w1.alloc (Obj.cells (madeCells #[Value.int .i64 0] n) 3)) 3 w1.heap.size (natL n fun _ => 0) := by
    rw [natL_made]; exact heap_alloc_new _ _
  have hlo := hX1.lt
  generalize w1.alloc (Obj.cells (madeCells #[Value.int .i64 0] n) 3) = w2 at hX2 hrow ⊢
  obtain ⟨bn, hbn⟩ : ∃ b, b = w1.heap.size := ⟨_, rfl⟩
  rw [← hbn] at hrow hlo ⊢
  have HT : Hid (TbW w n es A c bn w2 fun _ => 0) := ⟨hX2, hrow, hlo⟩
  clear hX2 hrow hlo hbn hX1 c0 c1 w1 hmk1
  go_loopw [4] (fun i wr => ∃ (k : Nat) (f : Nat → Nat), i = .int .i64 k ∧ k ≤ es.length ∧ Hid (NbI n es k f) ∧ Hid (TbW w n es A c bn wr f)) (fun i _ => es.length - (intOf i).toNat)
  case atStart => exact ⟨0, fun _ => 0, rfl, Nat.zero_le _, NbI.zero n es, HT⟩
  case round =>
    clear HT
    obtain ⟨k, f, rfl, hk, hN, hT⟩ := hrel
    have c0 := hT.out.box.c0
    have c1 := hT.out.box.c1
    by_cases hlt : k < es.length
    · obtain ⟨⟨x, y⟩, hxy⟩ : ∃ e, es[k]? = some e := ⟨es[k], by simp [hlt]⟩
      have hok := HP.out.ok _ (List.mem_of_getElem? hxy)
      simp only at hok
      obtain ⟨a, rfl⟩ : ∃ a' : Nat, x = (a' : Int) := ⟨x.toNat, by omega⟩
      obtain ⟨b, rfl⟩ : ∃ b' : Nat, y = (b' : Int) := ⟨y.toNat, by omega⟩
      obtain ⟨eb, eo, hA, _, cx, cy⟩ := (HR.out.below hT.out.box.below).pair' k _ hxy
      simp only at cx cy
      rw [hA]
      rw [hA] at c1
      have HA := Lib.hid hA
      have HXY := Lib.hid hxy
      have i1 : (0 : Int) ≤ (k : Int) := by omega
      have i2 : (k : Int) < (es.length : Int) := by omega
      have han : a < n := by omega
      have hbn : b < n := by omega
      have a1 : (0 : Int) ≤ (a : Int) := by omega
      have a2 : (a : Int) < (n : Int) := by omega
      have b1 : (0 : Int) ≤ (b : Int) := by omega
      have b2 : (b : Int) < (n : Int) := by omega
      have ca := hT.out.row.cell (natL_get (f := f) han)
      have fa := hT.out.row.frozen a
      clear hA hxy
      go_upto_region 5 with fail
      go_quiet (fail)
      have hpa : 2 ^ a < 2 ^ 62 := Nat.pow_lt_pow_right (by omega) (by omega)
      have hpb : 2 ^ b < 2 ^ 62 := Nat.pow_lt_pow_right (by omega) (by omega)
      have h2n : 2 ^ n ≤ 2 ^ 62 := Nat.pow_le_pow_right (by omega) (by omega)
      have e1 : bits BinOp.or IntKind.i64 ((f a : Nat) : Int) (wrap64 (2 ^ b)) = ((f a ||| 2 ^ b : Nat) : Int) := by
        rw [wrap_pow (by omega)]; exact bits_or _ _ (by have := hN.out.1 a; omega) hpb
      go_upto_region 7 with fail
      have hN2 := Lib.hid (hN.out.succ HXY.out (by omega) hbn)
      have hT2 := Lib.hid ((hT.out.drewN nq).set a (f a ||| 2 ^ b))
      have h7 : upd f a (f a ||| 2 ^ b) b < 2 ^ 62 := by
        have h9 := hN.out.1 b
        rw [upd_ne _ _ (show b ≠ a by omega)]; omega
      clear e1 ca fa hT hN
      generalize (wr.drewN nq).setCell ⟨bn, a, none⟩ (.int .i64 ((f a ||| 2 ^ b : Nat) : Int)) = w7 at hT2 ⊢
      generalize upd f a (f a ||| 2 ^ b) = f1 at *
      have e2 : bits BinOp.or IntKind.i64 ((f1 b : Nat) : Int) (wrap64 (2 ^ a)) = ((f1 b ||| 2 ^ a : Nat) : Int) := by
        rw [wrap_pow (by omega)]; exact bits_or _ _ h7 hpa
      have cb := hT2.out.row.cell (natL_get (f := f1) hbn)
      have fb := hT2.out.row.frozen b
      have hT3 := Lib.hid (hT2.out.set b (f1 b ||| 2 ^ a))
      clear hpa hpb h2n h7 hT2
      go_wp2_with fail
      rw [← HA.out]
      go_roundw
      case rel => exact ⟨k + 1, _, by go_num, by omega, hN2, hT3⟩
      case measure => simp [intOf]; omega
    · have i2 : ¬ (k : Int) < (es.length : Int) := by omega
      obtain rfl : k = es.length := by omega
      have hN2 : Hid ((∀ v, f v < 2 ^ n) ∧ ∀ v u, (f v).testBit u = true ↔ adjE es v u) := by
        have := hN.out.2
        rw [List.take_length] at this
        exact ⟨hN.out.1, this⟩
      obtain ⟨N, hN⟩ : ∃ N, N = 2 ^ n := ⟨_, rfl⟩
      have h2n : 2 ^ n ≤ 2 ^ 20 := Nat.pow_le_pow_right (by omega) (by omega)
      have e3 : wrap64 (2 ^ n) = (N : Int) := by rw [hN]; exact wrap_pow (by omega)
      have hN0 : 1 ≤ N := by rw [hN]; exact Nat.two_pow_pos n
      have hN1 : N ≤ 1048576 := by omega
      have hmk2 := hmk N (by omega)
      have c64 : (n : Int) ≤ 64 := by omega
      have HN := Lib.hid hN
      clear hk hmk h2n hN
      go_upto_region 10 with fail
      have hT2 : Tb2 w n es A c bn f wr.heap.size N (wr.alloc (Obj.cells (madeCells #[Value.int .i64 0] N) 3)) (fun _ => 0) :=
        ⟨⟨hT.out.box.old _, hT.out.row.old _, hT.out.lo⟩, by rw [natL_made]; exact heap_alloc_new _ _, hT.out.row.lt⟩
      generalize wr.alloc (Obj.cells (madeCells #[Value.int .i64 0] N) 3) = w3 at hT2 ⊢
      obtain ⟨bt, hbt⟩ : ∃ b, b = wr.heap.size := ⟨_, rfl⟩
      rw [← hbt] at hT2 ⊢
      have HT2 := Lib.hid hT2
      have hg : Hid (IsGr n (adjE es)) := right_gr HP.out
      clear hT hT2 hbt c0 c1 hmk2 e3 hlt i2
      go_loopw [8] (fun i wr => ∃ (s : Nat) (t : Nat → Nat), i = .int .i64 s ∧ 1 ≤ s ∧ s ≤ N ∧ Hid (∀ j, j < s → IsMx n (adjE es) (fun v => j.testBit v) (t j)) ∧ Hid (Tb2 w n es A c bn f bt N wr t)) (fun i _ => N - (intOf i).toNat)
      case atStart => exact ⟨1, fun _ => 0, rfl, Nat.le_refl _, hN0, fun j hj => (by obtain rfl : j = 0 := (by omega); exact mx_empty (by simp)), HT2⟩
      case round =>
        clear HT2
        obtain ⟨s, t, rfl, hs1, hsN, hMx, hT⟩ := hrel
        by_cases hlt : s < N
        · have i1 : (s : Int) < (N : Int) := by omega
          have hs62 : s < 2 ^ 62 := by omega
          obtain ⟨vb, hvb⟩ : ∃ vb, s.testBit vb = true := Nat.exists_testBit_of_ne_zero (by omega)
          have hvn : ∀ u, s.testBit u = true → u < n := fun u hu => by
            rcases Nat.lt_or_ge u n with h | h
            · exact h
            · have h3 := Nat.pow_le_pow_right (n := 2) (by omega) h
              have h4 := HN.out
              rw [Nat.testBit_lt_two_pow (by omega)] at hu; cases hu
          have HVB := Lib.hid hvb
          have HVN := Lib.hid hvn
          clear hvb hvn
          go_wp2_with fail
          go_loopw [9] (fun i wx => ∃ (v : Nat), i = .int .i64 v ∧ v ≤ vb ∧ Hid (∀ u, u < v → s.testBit u = false) ∧ wx = wr) (fun i _ => vb + 1 - (intOf i).toNat)
          case atStart => exact ⟨0, rfl, Nat.zero_le _, fun u hu => absurd hu (Nat.not_lt_zero _), rfl⟩
          case round =>
            obtain ⟨v, rfl, hv, hlow, rfl⟩ := hrel
            have hvb := HVN.out vb HVB.out
            have u1 : IntKind.u64.wrap (v : Int) = (v : Int) := by rw [IntKind.wrap_u64]; omega
            have u2 : (v : Int) ≤ 64 := by omega
            cases hb : s.testBit v with
            | false =>
              have e1 := test_bit v hs62 hb
              have hne : v ≠ vb := fun e => by rw [e, HVB.out] at hb; cases hb
              have hlow2 : Hid (∀ u, u < v + 1 → s.testBit u = false) := fun u hu => by
                by_cases e : u = v
                · rw [e]; exact hb
                · exact hlow.out u (by omega)
              clear hb
              go_wp2_with fail
              exact ⟨⟨v + 1, by go_num, by omega, hlow2, trivial⟩, by simp [intOf]; omega⟩
            | true =>
              have e1 := test_bit v hs62 hb
              have HB := Lib.hid hb
              have hvn := HVN.out v hb
              have HQ := Lib.hid (low_bit hb hlow.out)
              have hrs : s &&& (s - 1) ≤ s - 1 := Nat.and_le_right
              have e2 : bits BinOp.and IntKind.i64 (s : Int) ((s : Int) - 1) = ((s &&& (s - 1) : Nat) : Int) := by
                rw [show (s : Int) - 1 = ((s - 1 : Nat) : Int) by omega]
                exact bits_and _ _ hs62 (by omega)
              have e3 : IntKind.i64.wrap ((s : Int) - 1) = (s : Int) - 1 := by rw [IntKind.wrap_i64]; omega
              generalize s &&& (s - 1) = r at HQ hrs e2
              have hr1 : r < N := by omega
              have r1 : (0 : Int) ≤ (r : Int) := by omega
              have r2 : (r : Int) < (N : Int) := by omega
              have s1 : (0 : Int) ≤ (s : Int) := by omega
              have cr := hT.out.row2.cell (natL_get (f := t) hr1)
              have cs := hT.out.row2.cell (natL_get (f := t) hlt)
              have fs := hT.out.row2.frozen s
              clear hb hv
              go_upto_region 18 with fail
              have hT4 := Lib.hid (hT.out.set s (t r))
              have hPM := Lib.hid (pmx_start hg.out hlow.out HQ.out (hMx.out r (by omega)))
              have hvI : ((v + 1 : Nat) : Int) = (v : Int) + 1 := by omega
              clear cr cs fs e1 e2 e3 hT
              go_loopw [11] (fun i wx => ∃ (u k : Nat), i = .int .i64 u ∧ u ≤ n ∧ Hid (PMx n (adjE es) (fun v => s.testBit v) v u k) ∧ Hid (Tb2 w n es A c bn f bt N wx (upd t s k))) (fun i _ => n - (intOf i).toNat)
              case atStart => exact ⟨v + 1, t r, by go_num, by omega, hPM, hT4⟩
              case round =>
                clear hPM hT4
                obtain ⟨u, k, rfl, hu, hPM, hT⟩ := hrel
                have c0 := hT.out.one.box.c0
                by_cases hun : u < n
                · have j1 : (u : Int) < (n : Int) := by omega
                  have j2 : IntKind.u64.wrap (u : Int) = (u : Int) := by rw [IntKind.wrap_u64]; omega
                  have j3 : (u : Int) ≤ 64 := by omega
                  have j4 : (0 : Int) ≤ (v : Int) := by omega
                  have j5 : (v : Int) < (n : Int) := by omega
                  have cv := hT.out.one.row.cell (natL_get (f := f) hvn)
                  have hfv : f v < 2 ^ 62 := by
                    have h1 := hN2.out.1 v
                    have h2 := HN.out
                    omega
                  have hfu := hN2.out.2 v u
                  cases hb1 : r.testBit u with
                  | false =>
                    have e1 := test_bit u (show r < 2 ^ 62 by omega) hb1
                    have hP2 := Lib.hid (pmx_no hg.out HQ.out hPM.out (.inl hb1))
                    clear hb1 hfu
                    go_wp2_with fail
                    exact ⟨⟨u + 1, k, by go_num, by omega, hP2, hT⟩, by simp [intOf]; omega⟩
                  | true =>
                    have e1 := test_bit u (show r < 2 ^ 62 by omega) hb1
                    cases hb2 : (f v).testBit u with
                    | false =>
                      have e2 := test_bit u hfv hb2
                      have hP2 := Lib.hid (pmx_no hg.out HQ.out hPM.out (.inr fun h => by rw [hfu.2 h] at hb2; cases hb2))
                      clear hb1 hb2 hfu
                      go_wp2_with fail
                      exact ⟨⟨u + 1, k, by go_num, by omega, hP2, hT⟩, by simp [intOf]; omega⟩
                    | true =>
                      have e2 := test_bit u hfv hb2
                      have e3 : wrap64 (2 ^ u) = ((2 ^ u : Nat) : Int) := wrap_pow (by omega)
                      obtain ⟨z, e4, hz1, hz2⟩ := bits_andNot r (2 ^ u) (by omega) (Nat.pow_lt_pow_right (by omega) (by omega))
                      have hMz := hMx.out z (by omega)
                      have hzle := hMz.le hg.out
                      have hkle : k ≤ n := by
                        obtain ⟨⟨M, a1, _, a3⟩, _⟩ := hPM.out
                        have := size_free hg.out a1
                        omega
                      have hP2 := Lib.hid (pmx_yes (r := fun x => z.testBit x) hg.out HB.out HQ.out (fun x => by
                        rw [hz2, Nat.testBit_two_pow]
                        by_cases e : u = x
                        · subst e; simp
                        · have : ¬ x = u := fun h => e h.symm
                          simp [e, this]) hPM.out hb1 (hfu.1 hb2) hMz)
                      have hzN : z < N := by omega
                      have z1 : (0 : Int) ≤ (z : Int) := by omega
                      have z2 : (z : Int) < (N : Int) := by omega
                      have cz := hT.out.row2.cell (natL_get (f := upd t s k) hzN)
                      rw [upd_ne _ _ (show z ≠ s by omega)] at cz
                      have cs := hT.out.row2.cell (natL_get (f := upd t s k) hlt)
                      rw [upd_same] at cs
                      have fs := hT.out.row2.frozen s
                      have e5 : IntKind.i64.wrap (1 + (t z : Int)) = ((1 + t z : Nat) : Int) := by rw [IntKind.wrap_i64]; omega
                      have e6 : max (k : Int) ((1 + t z : Nat) : Int) = ((max k (1 + t z) : Nat) : Int) := by omega
                      clear hb1 hb2 hfu hMz hz2
                      go_upto_region 21 with fail
                      have e7 : bits BinOp.andNot IntKind.i64 (r : Int) ((2 : Int) ^ u) = (z : Int) := by rw [pow_cast]; exact e4
                      have e8 : IntKind.i64.wrap ((2 : Int) ^ u) = (2 : Int) ^ u := by
                        have h9 : (2 : Nat) ^ u < 2 ^ 62 := Nat.pow_lt_pow_right (by omega) (by omega)
                        rw [pow_cast]; exact bit_wrap _ h9
                      have e9 : wrap64 ((2 : Int) ^ u) = (2 : Int) ^ u := by rw [e3, pow_cast]
                      clear e3 e4
                      have hT5 := hT.out.set s (max k (1 + t z))
                      have hup : upd (upd t s k) s (max k (1 + t z)) = upd t s (max k (1 + t z)) := by funext x; unfold upd; by_cases e : x = s <;> simp [e]
                      rw [hup] at hT5
                      have e10 : (if (k : Int) < 1 + (t z : Int) then 1 + (t z : Int) else (k : Int)) = ((max k (1 + t z) : Nat) : Int) := by split <;> omega
                      have HT5 := Lib.hid hT5
                      have HE := Lib.hid e10
                      clear hT5 hup e10 e6
                      go_region
                      all_goals
                        go_wp2_with fail
                        exact ⟨⟨u + 1, _, by go_num, by omega, hP2, by rw [HE.out]; first | exact HT5.out.drewN 1 | exact HT5.out⟩, by simp [intOf]; omega⟩
                · have j1 : ¬ (u : Int) < (n : Int) := by omega
                  have hN3 := Lib.hid (pmx_end hPM.out (by omega))
                  go_wp2_with fail
                  have hM4 : Hid (∀ j, j < s + 1 → IsMx n (adjE es) (fun v => j.testBit v) (upd t s k j)) := fun j hj => by
                    by_cases e : j = s
                    · subst e; rw [upd_same]; exact hN3.out
                    · rw [upd_ne _ _ e]; exact hMx.out j (by omega)
                  exact ⟨⟨s + 1, upd t s k, by go_num, by omega, by omega, hM4, hT⟩, by simp [intOf]; omega⟩
        · have i1 : ¬ (s : Int) < (N : Int) := by omega
          go_wp2_with fail
          go_ret
          rw [← HN.out]
          exact ⟨bt, rfl, by have := hT.out.lo2; have := hT.out.one.lo; omega, t, hT.out.row2, fun j hj => hMx.out j (by omega), hT.out.one.box.below⟩
end Go.Proofs.Ytgddfmfiiodgbaa
